/- The relation between the abstract values and store of the layer Ab and the model's values and worlds, and that it is kept. -/
import Derived.Test.YtgfnhkedfmnijaaAb1
import Derived.Laws.Sem
import Derived.Laws.World
import Derived.Laws.Cells
set_option linter.unusedVariables false
set_option linter.unusedSimpArgs false
namespace Go.Ab

structure Ctx where
  ω : Nat → Nat
  lim : Nat → Nat
  nx : Nat

def capOK (w : World) (b n : Nat) : Prop := ∃ c e, w.heap[b]? = some (.cells c e (0, 0)) ∧ n ≤ c.size

def Cap.shared : Cap → Bool
  | .own _ => false
  | _ => true

inductive VR (k : Ctx) (w : World) : V → Value → Prop
  | bool (b : Bool) : VR k w (.bool b) (.bool b)
  | int (i : IntKind) (n : Int) : VR k w (.int i n) (.int i n)
  | str (s : ByteArray) : VR k w (.str s) (.string s)
  | vecNil (c : Cap) (hc : c.shared = true) : VR k w (.vec [] c) (.slice none 0 0)
  | vec (xs : List V) (c : Cap) (a : Addr) (len cap sz : Nat) (val : Nat → Nat → Value) (hc : c.shared = true) (hlen : len = xs.length) (hcap : len ≤ cap)
      (hfull : c = .full → cap = len)
      (hsz : ∀ (i : Nat) (e : V), xs[i]? = some e → e.cells.length = sz)
      (hcell : ∀ (i : Nat) (e : V) (j : Nat) (v : V), xs[i]? = some e → e.cells[j]? = some v → w.cell? (a.add (i * sz + j)) = some (val i j) ∧ (a.add (i * sz + j)).off < k.lim a.block ∧ (val i j).oneCell' = true)
      (hval : ∀ (i : Nat) (e : V) (j : Nat) (v : V), xs[i]? = some e → e.cells[j]? = some v → VR k w v (val i j)) :
      VR k w (.vec xs c) (.slice (some a) len cap)
  | ref (id off len sz cap : Nat) (b : Nat) (hb : b = k.ω id) (hid : id < k.nx) (hl : len ≤ cap) (hc : capOK w (k.ω id) (off + cap * sz)) :
      VR k w (.ref id off len sz) (.slice (some ⟨b, off, none⟩) len cap)
  | iptr (cells : List V) (a : Addr) (val : Nat → Value) (ha : a.spot = none)
      (hcell : ∀ (j : Nat) (v : V), cells[j]? = some v → w.cell? (a.add j) = some (val j) ∧ (a.add j).off < k.lim a.block ∧ (val j).oneCell' = true)
      (hval : ∀ (j : Nat) (v : V), cells[j]? = some v → VR k w v (val j)) : VR k w (.iptr cells) (.pointer (some a))
  | ptr (id off : Nat) (b : Nat) (hb : b = k.ω id) (hid : id < k.nx) : VR k w (.ptr id off) (.pointer (some ⟨b, off, none⟩))
  | nilptr : VR k w .nilptr (.pointer none)
  | map (id : Nat) (b : Nat) (hb : b = k.ω id) (hid : id < k.nx) : VR k w (.map id) (.map (some b))
  | nilmap : VR k w .nilmap (.map none)
  | func (fn : Fn) (p q : List V) (p' q' : Array Value) (vp vq : Nat → Value) (hp : p'.size = p.length) (hq : q'.size = q.length)
      (hpx : ∀ (j : Nat) (v : V), p[j]? = some v → p'[j]? = some (vp j)) (hqx : ∀ (j : Nat) (v : V), q[j]? = some v → q'[j]? = some (vq j))
      (hpv : ∀ (j : Nat) (v : V), p[j]? = some v → VR k w v (vp j)) (hqv : ∀ (j : Nat) (v : V), q[j]? = some v → VR k w v (vq j)) : VR k w (.func fn p q) (.func fn p' q')
  | nilfunc : VR k w .nilfunc .nilFunc
  | iface (t : TypeId) (v : V) (x : Value) (h : VR k w v x) : VR k w (.iface t v) (.iface t x)
  | niliface : VR k w .niliface .nilIface
  | agg (cs : List V) (xs : Array Value) (val : Nat → Value) (hs : xs.size = cs.length) (hx : ∀ (j : Nat) (v : V), cs[j]? = some v → xs[j]? = some (val j) ∧ (val j).oneCell' = true)
      (hv : ∀ (j : Nat) (v : V), cs[j]? = some v → VR k w v (val j)) : VR k w (.agg cs) (.agg xs)

/-- What a later world and context keep for every value. -/
structure Keeps (k k' : Ctx) (w w' : World) : Prop where
  nx : k.nx ≤ k'.nx
  om : ∀ (id : Nat), id < k.nx → k'.ω id = k.ω id
  lim : ∀ (b : Nat), b < w.heap.size → k.lim b ≤ k'.lim b
  size : w.heap.size ≤ w'.heap.size
  cell : ∀ (a : Addr) (v : Value), w.cell? a = some v → a.off < k.lim a.block → w'.cell? a = some v
  rows : ∀ (b : Nat) (c : Array Value) (e : TypeId), w.heap[b]? = some (.cells c e (0, 0)) → ∃ c', w'.heap[b]? = some (.cells c' e (0, 0)) ∧ c'.size = c.size

theorem Keeps.refl (k : Ctx) (w : World) : Keeps k k w w :=
  ⟨Nat.le_refl _, fun _ _ => rfl, fun _ _ => Nat.le_refl _, Nat.le_refl _, fun _ _ h _ => h, fun b c e h => ⟨c, h, rfl⟩⟩

theorem Keeps.trans {k k' k'' : Ctx} {w w' w'' : World} (a : Keeps k k' w w') (b : Keeps k' k'' w' w'') : Keeps k k'' w w'' where
  nx := Nat.le_trans a.nx b.nx
  om id h := (b.om id (Nat.lt_of_lt_of_le h a.nx)).trans (a.om id h)
  lim x h := Nat.le_trans (a.lim x h) (b.lim x (Nat.lt_of_lt_of_le h a.size))
  size := Nat.le_trans a.size b.size
  cell x v h hl := b.cell x v (a.cell x v h hl) (Nat.lt_of_lt_of_le hl (a.lim _ (World.block_lt_of_cell? _ _ h)))
  rows x c e h := by
    obtain ⟨c', h', hs⟩ := a.rows x c e h
    obtain ⟨c'', h'', hs'⟩ := b.rows x c' e h'
    exact ⟨c'', h'', hs'.trans hs⟩

theorem capOK.mono {k k' : Ctx} {w w' : World} {b n : Nat} (h : capOK w b n) (hk : Keeps k k' w w') : capOK w' b n := by
  obtain ⟨c, e, hb, hn⟩ := h
  obtain ⟨c', hb', hs⟩ := hk.rows b c e hb
  exact ⟨c', e, hb', by omega⟩

theorem addr_add_block (a : Addr) (n : Nat) : (a.add n).block = a.block := by unfold Addr.add; split <;> rfl
theorem addr_add_off (a : Addr) (n : Nat) : (a.add n).off = a.off + n := by unfold Addr.add; split <;> simp_all
theorem addr_add_spot (a : Addr) (n : Nat) (h : a.spot = none) : (a.add n).spot = none := by unfold Addr.add; split <;> simp_all
theorem addr_add_add (a : Addr) (m n : Nat) : (a.add m).add n = a.add (m + n) := by
  unfold Addr.add
  by_cases hm : m = 0 <;> by_cases hn : n = 0 <;> simp [hm, hn, Nat.add_assoc]
theorem addr_mk (b off n : Nat) : (⟨b, off, none⟩ : Addr).add n = ⟨b, off + n, none⟩ := by
  unfold Addr.add; split <;> simp_all
theorem addr_eq (a : Addr) (n : Nat) (h : a.spot = none) : a.add n = ⟨a.block, a.off + n, none⟩ := by
  cases a; simp only at h; subst h; exact addr_mk _ _ _

theorem VR.mono {k k' : Ctx} {w w' : World} {v : V} {x : Value} (h : VR k w v x) (hk : Keeps k k' w w') : VR k' w' v x := by
  induction h with
  | bool b => exact .bool b
  | int i n => exact .int i n
  | str s => exact .str s
  | vecNil c hc => exact .vecNil c hc
  | vec xs c a len cap sz val hc hlen hcap hfull hsz hcell hval ih =>
    refine .vec xs c a len cap sz val hc hlen hcap hfull hsz (fun i e j v hi hj => ?_) (fun i e j v hi hj => ih i e j v hi hj)
    obtain ⟨h1, h2, h3⟩ := hcell i e j v hi hj
    have hb := World.block_lt_of_cell? _ _ h1
    rw [addr_add_block] at hb
    exact ⟨hk.cell _ _ h1 (by rwa [addr_add_block]), Nat.lt_of_lt_of_le h2 (hk.lim _ hb), h3⟩
  | ref id off len sz cap b hb hid hl hc =>
    exact .ref id off len sz cap b (by rw [hk.om id hid]; exact hb) (Nat.lt_of_lt_of_le hid hk.nx) hl (by rw [hk.om id hid]; exact hc.mono hk)
  | iptr cells a val ha hcell hval ih =>
    refine .iptr cells a val ha (fun j v hj => ?_) (fun j v hj => ih j v hj)
    obtain ⟨h1, h2, h3⟩ := hcell j v hj
    have hb := World.block_lt_of_cell? _ _ h1
    rw [addr_add_block] at hb
    exact ⟨hk.cell _ _ h1 (by rwa [addr_add_block]), Nat.lt_of_lt_of_le h2 (hk.lim _ hb), h3⟩
  | ptr id off b hb hid => exact .ptr id off b (by rw [hk.om id hid]; exact hb) (Nat.lt_of_lt_of_le hid hk.nx)
  | nilptr => exact .nilptr
  | map id b hb hid => exact .map id b (by rw [hk.om id hid]; exact hb) (Nat.lt_of_lt_of_le hid hk.nx)
  | nilmap => exact .nilmap
  | func fn p q p' q' vp vq hp hq hpx hqx hpv hqv ihp ihq => exact .func fn p q p' q' vp vq hp hq hpx hqx ihp ihq
  | nilfunc => exact .nilfunc
  | iface t v x h ih => exact .iface t v x ih
  | niliface => exact .niliface
  | agg cs xs val hs hx hv ih => exact .agg cs xs val hs hx ih

/-- A list of cells. -/
def CRs (k : Ctx) (w : World) (vs : List V) (xs : List Value) : Prop :=
  xs.length = vs.length ∧ ∀ (j : Nat) (v : V), vs[j]? = some v → ∃ x, xs[j]? = some x ∧ VR k w v x ∧ x.oneCell' = true

theorem CRs.mono {k k' : Ctx} {w w' : World} {vs : List V} {xs : List Value} (h : CRs k w vs xs) (hk : Keeps k k' w w') : CRs k' w' vs xs :=
  ⟨h.1, fun j v hj => let ⟨x, a, b, c⟩ := h.2 j v hj; ⟨x, a, b.mono hk, c⟩⟩

theorem VR.one {k : Ctx} {w : World} {v : V} {x : Value} (h : VR k w v x) (hv : ∀ cs, v ≠ .agg cs) : x.oneCell' = true := by
  cases h <;> first | rfl | exact absurd rfl (hv _)

theorem V.cells_of_not {v : V} (hv : ∀ cs, v ≠ .agg cs) : v.cells = [v] := by
  cases v <;> first | rfl | exact absurd rfl (hv _)

theorem Value.cells_of_one {x : Value} (h : x.oneCell' = true) : x.cells = #[x] := by
  cases x <;> first | rfl | simp [Value.oneCell'] at h

theorem VR.cells {k : Ctx} {w : World} {v : V} {x : Value} (h : VR k w v x) : CRs k w v.cells x.cells.toList := by
  by_cases hv : ∀ cs, v ≠ .agg cs
  · rw [V.cells_of_not hv, Value.cells_of_one (h.one hv)]
    refine ⟨rfl, fun j u hj => ?_⟩
    cases j with
    | zero => simp at hj; subst hj; exact ⟨x, rfl, h, h.one hv⟩
    | succ j => simp at hj
  · cases v with
    | agg cs =>
      cases h with
      | agg _ xs val hs hx hv =>
        refine ⟨by simpa [Value.cells, V.cells] using hs, fun j u hj => ?_⟩
        obtain ⟨h1, h2⟩ := hx j u hj
        exact ⟨val j, by simpa [Value.cells] using h1, hv j u hj, h2⟩
    | _ => exact absurd (fun cs => by simp) hv

theorem VR.of_cells {k : Ctx} {w : World} {cs : List V} {xs : Array Value} (h : CRs k w cs xs.toList) : VR k w (.agg cs) (.agg xs) := by
  refine .agg cs xs (fun j => xs.getD j undef) (by simpa using h.1) (fun j v hj => ?_) (fun j v hj => ?_)
  all_goals
    obtain ⟨x, h1, h2, h3⟩ := h.2 j v hj
    have h1' : xs[j]? = some x := by simpa using h1
    have hg : xs.getD j undef = x := by simp [Array.getD_eq_getD_getElem?, h1']
    rw [hg]
  · exact ⟨h1', h3⟩
  · exact h2

end Go.Ab
