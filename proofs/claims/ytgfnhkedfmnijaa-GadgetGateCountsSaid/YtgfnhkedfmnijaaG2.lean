/- Lists of words, and lists of such lists, however they lie in the store. -/
import Derived.Test.YtgfnhkedfmnijaaG1
set_option linter.unusedVariables false
set_option linter.unusedSimpArgs false
namespace Go.Ab

/-- 'v' reads as the words 'ws'. -/
def WordsAt (h : H) (v : V) (ws : List Nat) : Prop :=
  v = .vec (Ws ws) .any ∨ (∃ id : Nat, id < h.next ∧ v = .ref id 0 ws.length 1 ∧ h.get id = some (Ws ws))

/-- 'v' reads as the lists 'ls'. -/
def ListsAt (h : H) (v : V) (ls : List (List Nat)) : Prop :=
  ∃ vs : List V, vs.length = ls.length ∧ (∀ (i : Nat) (x : V) (ws : List Nat), vs[i]? = some x → ls[i]? = some ws → WordsAt h x ws) ∧
    (v = .vec vs .any ∨ (∃ id : Nat, id < h.next ∧ v = .ref id 0 vs.length 1 ∧ h.get id = some vs))

theorem WordsAt.frame {h h' : H} {v : V} {ws : List Nat} (a : WordsAt h v ws) (hn : h.next ≤ h'.next) (e : ∀ j, j < h.next → h'.objs j = h.objs j) : WordsAt h' v ws := by
  rcases a with a | ⟨id, h1, h2, h3⟩
  · exact .inl a
  · exact .inr ⟨id, Nat.lt_of_lt_of_le h1 hn, h2, by unfold H.get at h3 ⊢; rw [e id h1]; exact h3⟩

theorem ListsAt.frame {h h' : H} {v : V} {ls : List (List Nat)} (a : ListsAt h v ls) (hn : h.next ≤ h'.next) (e : ∀ j, j < h.next → h'.objs j = h.objs j) : ListsAt h' v ls := by
  obtain ⟨vs, h1, h2, h3⟩ := a
  refine ⟨vs, h1, fun i x ws hx hw => (h2 i x ws hx hw).frame hn e, ?_⟩
  rcases h3 with h3 | ⟨id, h4, h5, h6⟩
  · exact .inl h3
  · exact .inr ⟨id, Nat.lt_of_lt_of_le h4 hn, h5, by unfold H.get at h6 ⊢; rw [e id h4]; exact h6⟩

theorem WordsAt.out {h : H} {v : V} {ws : List Nat} (a : WordsAt h v ws) : v.out = some v ∧ v.cells = [v] ∧ v.stays = true ∧ ∀ h1 : H, lenOfV h1 .i v = some (I ws.length) := by
  rcases a with rfl | ⟨id, _, rfl, _⟩
  · exact ⟨rfl, rfl, rfl, fun _ => by simp [lenOfV, Ws_length]⟩
  · exact ⟨rfl, rfl, rfl, fun _ => rfl⟩

theorem ListsAt.out {h : H} {v : V} {ls : List (List Nat)} (a : ListsAt h v ls) : v.out = some v ∧ v.cells = [v] ∧ v.stays = true ∧ ∀ h1 : H, lenOfV h1 .i v = some (I ls.length) := by
  obtain ⟨vs, h1, _, rfl | ⟨id, _, rfl, _⟩⟩ := a
  · exact ⟨rfl, rfl, rfl, fun _ => by simp [lenOfV, h1]⟩
  · exact ⟨rfl, rfl, rfl, fun _ => by simp [lenOfV, h1]⟩

theorem get1 {cs : List V} {i : Nat} {v : V} (hi : cs[i]? = some v) : takeV cs i 1 false = some v := by simp [takeV, hi]

theorem WordsAt.idx {h : H} {v : V} {ws : List Nat} (a : WordsAt h v ws) {i : Nat} (hi : i < ws.length) :
    ∃ p, idxSV v (.int .i64 (i : Int)) 1 = some p ∧ ∀ m, loadV m h p 1 false = some (.int .u64 ((ws[i] : Nat) : Int)) := by
  have hg : (Ws ws)[i]? = some (W ws[i]) := by rw [Ws_get, List.getElem?_eq_getElem hi]; rfl
  rcases a with rfl | ⟨id, _, rfl, h3⟩
  · refine ⟨.iptr [W ws[i]], ?_, fun m => rfl⟩
    simp only [idxSV, Int.natCast_nonneg, if_true, Int.toNat_natCast, hg]
    rfl
  · refine ⟨.ptr id (0 + i * 1), ?_, fun m => ?_⟩
    · simp only [idxSV, Int.natCast_nonneg, Int.toNat_natCast]
      rw [if_pos ⟨trivial, by omega, trivial⟩]
    · simp only [loadV, h3]
      exact get1 (by rw [Nat.zero_add, Nat.mul_one]; exact hg)

theorem ListsAt.idx {h : H} {v : V} {ls : List (List Nat)} (a : ListsAt h v ls) {i : Nat} (hi : i < ls.length) :
    ∃ p x, idxSV v (.int .i64 (i : Int)) 1 = some p ∧ (∀ m, loadV m h p 1 false = some x) ∧ WordsAt h x ls[i] := by
  obtain ⟨vs, h1, h2, h3⟩ := a
  have hi' : i < vs.length := by omega
  have hw : WordsAt h vs[i] ls[i] := h2 i _ _ (List.getElem?_eq_getElem hi') (List.getElem?_eq_getElem hi)
  have hg : vs[i]? = some vs[i] := List.getElem?_eq_getElem hi'
  rcases h3 with rfl | ⟨id, _, rfl, h5⟩
  · refine ⟨.iptr [vs[i]], vs[i], ?_, fun m => rfl, hw⟩
    simp only [idxSV, Int.natCast_nonneg, if_true, Int.toNat_natCast, hg, hw.out.2.1, List.length_cons, List.length_nil]
  · refine ⟨.ptr id (0 + i * 1), vs[i], ?_, fun m => ?_, hw⟩
    · simp only [idxSV, Int.natCast_nonneg, Int.toNat_natCast]
      rw [if_pos ⟨trivial, by omega, trivial⟩]
    · simp only [loadV, h5]
      exact get1 (by rw [Nat.zero_add, Nat.mul_one]; exact hg)

end Go.Ab
