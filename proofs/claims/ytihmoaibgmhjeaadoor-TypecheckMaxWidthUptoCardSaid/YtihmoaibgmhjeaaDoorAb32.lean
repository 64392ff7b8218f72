import Derived.Test.YtihmoaibgmhjeaaDoorAb31
set_option linter.unusedVariables false
set_option linter.unusedSimpArgs false
namespace Go.Ab
section
variable {P : Program} {t e : TypeId} {v : V} {k : IntKind}
theorem ty_int {cs : List V} (ht : P.underlying t = some (.int k)) (h : Ty P t cs) : ∃ n, cs = [.int k n] ∧ (Lit.int k n).wf = true := by
 cases h with
 | int hu n hn => rw [ht] at hu; cases hu; exact ⟨n, rfl, hn⟩
 | bool hu => rw [ht] at hu; cases hu
 | str hu => rw [ht] at hu; cases hu
 | slice hu => rw [ht] at hu; cases hu
 | struct hu => rw [ht] at hu; cases hu
 | array hu => rw [ht] at hu; cases hu
theorem ty_bool {cs : List V} (ht : P.underlying t = some .bool) (h : Ty P t cs) : ∃ b, cs = [.bool b] := by
 cases h with
 | int hu n hn => rw [ht] at hu; cases hu
 | bool hu b => exact ⟨b, rfl⟩
 | str hu => rw [ht] at hu; cases hu
 | slice hu => rw [ht] at hu; cases hu
 | struct hu => rw [ht] at hu; cases hu
 | array hu => rw [ht] at hu; cases hu
theorem ty_str {cs : List V} (ht : P.underlying t = some .string) (h : Ty P t cs) : ∃ s : ByteArray, cs = [.str s] ∧ s.size ≤ maxLen := by
 cases h with
 | int hu n hn => rw [ht] at hu; cases hu
 | bool hu b => rw [ht] at hu; cases hu
 | str hu s hs => exact ⟨s, rfl, hs⟩
 | slice hu => rw [ht] at hu; cases hu
 | struct hu => rw [ht] at hu; cases hu
 | array hu => rw [ht] at hu; cases hu
theorem ty_slice {cs : List V} (ht : P.underlying t = some (.slice e)) (h : Ty P t cs) : ∃ (ag : Bool) (css : List (List V)), aggT P e = some ag ∧ cs = [.vec (css.map (mkEl ag)) .any] ∧ (∀ cs ∈ css, Ty P e cs) ∧ css.length ≤ maxLen := by
 cases h with
 | int hu n hn => rw [ht] at hu; cases hu
 | bool hu b => rw [ht] at hu; cases hu
 | str hu s hs => rw [ht] at hu; cases hu
 | slice hu ha css hc hl => rw [ht] at hu; cases hu; exact ⟨_, css, ha, rfl, hc, hl⟩
 | struct hu => rw [ht] at hu; cases hu
 | array hu => rw [ht] at hu; cases hu
theorem ty_struct {cs : List V} {fs : Array Field} (ht : P.underlying t = some (.struct fs)) (h : Ty P t cs) : ∃ parts : List (List V), cs = parts.flatten ∧ parts.length = fs.size ∧ ∀ (i : Nat) (f : Field) (cs : List V), fs[i]? = some f → parts[i]? = some cs → Ty P f.type cs := by
 cases h with
 | int hu n hn => rw [ht] at hu; cases hu
 | bool hu b => rw [ht] at hu; cases hu
 | str hu s hs => rw [ht] at hu; cases hu
 | slice hu ha css hc hl => rw [ht] at hu; cases hu
 | struct hu parts hl hp => rw [ht] at hu; cases hu; exact ⟨parts, rfl, hl, hp⟩
 | array hu => rw [ht] at hu; cases hu
theorem ty_array {cs : List V} {n : Nat} (ht : P.underlying t = some (.array n e)) (h : Ty P t cs) : ∃ parts : List (List V), cs = parts.flatten ∧ parts.length = n ∧ ∀ cs ∈ parts, Ty P e cs := by
 cases h with
 | int hu n hn => rw [ht] at hu; cases hu
 | bool hu b => rw [ht] at hu; cases hu
 | str hu s hs => rw [ht] at hu; cases hu
 | slice hu ha css hc hl => rw [ht] at hu; cases hu
 | struct hu parts hl hp => rw [ht] at hu; cases hu
 | array hu parts hl hp => rw [ht] at hu; cases hu; exact ⟨parts, rfl, hl, hp⟩
theorem agg_int (ht : P.underlying t = some (.int k)) : aggT P t = some false := by unfold aggT; rw [ht]
theorem agg_bool (ht : P.underlying t = some .bool) : aggT P t = some false := by unfold aggT; rw [ht]
theorem agg_str (ht : P.underlying t = some .string) : aggT P t = some false := by unfold aggT; rw [ht]
theorem agg_slice (ht : P.underlying t = some (.slice e)) : aggT P t = some false := by unfold aggT; rw [ht]
theorem agg_struct {fs : Array Field} (ht : P.underlying t = some (.struct fs)) : aggT P t = some true := by unfold aggT; rw [ht]
theorem agg_array {n : Nat} (ht : P.underlying t = some (.array n e)) : aggT P t = some true := by unfold aggT; rw [ht]
def Ns (k : IntKind) (l : List Int) : List V := l.map (V.int k)
abbrev Is (l : List Int) : List V := Ns .i64 l
theorem Ns_length {l : List Int} : (Ns k l).length = l.length := by simp [Ns]
theorem Ns_get {l : List Int} {i : Nat} : (Ns k l)[i]? = (l[i]?).map (V.int k) := by simp [Ns]
theorem wf_u64 {n : Int} (h : (Lit.int .u64 n).wf = true) : ∃ m : Nat, n = m ∧ m < 18446744073709551616 := by
 simp [Lit.wf, IntKind.min, IntKind.max, IntKind.signed, IntKind.bits] at h
 exact ⟨n.toNat, by omega, by omega⟩
theorem wf_i64 {n : Int} (h : (Lit.int .i64 n).wf = true) : -9223372036854775808 ≤ n ∧ n ≤ 9223372036854775807 := by
 simp [Lit.wf, IntKind.min, IntKind.max, IntKind.signed, IntKind.bits] at h
 omega
theorem wf_u8 {n : Int} (h : (Lit.int .u8 n).wf = true) : ∃ m : Nat, n = m ∧ m < 256 := by
 simp [Lit.wf, IntKind.min, IntKind.max, IntKind.signed, IntKind.bits] at h
 exact ⟨n.toNat, by omega, by omega⟩
theorem wf_u16 {n : Int} (h : (Lit.int .u16 n).wf = true) : ∃ m : Nat, n = m ∧ m < 65536 := by
 simp [Lit.wf, IntKind.min, IntKind.max, IntKind.signed, IntKind.bits] at h
 exact ⟨n.toNat, by omega, by omega⟩
theorem arg_int (ht : P.underlying t = some (.int k)) (h : TyArg P t v) : ∃ n, v = .int k n ∧ (Lit.int k n).wf = true := by
 obtain ⟨ag, cs, ha, rfl, h⟩ := h
 rw [agg_int ht] at ha; cases ha
 obtain ⟨n, rfl, hn⟩ := ty_int ht h
 exact ⟨n, rfl, hn⟩
theorem arg_u64 (ht : P.underlying t = some (.int .u64)) (h : TyArg P t v) : ∃ n : Nat, v = W n ∧ n < 18446744073709551616 := by
 obtain ⟨n, rfl, hn⟩ := arg_int ht h
 obtain ⟨m, rfl, hm⟩ := wf_u64 hn
 exact ⟨m, rfl, hm⟩
theorem arg_i64 (ht : P.underlying t = some (.int .i64)) (h : TyArg P t v) : ∃ n : Int, v = I n ∧ -9223372036854775808 ≤ n ∧ n ≤ 9223372036854775807 := by
 obtain ⟨n, rfl, hn⟩ := arg_int ht h
 exact ⟨n, rfl, wf_i64 hn⟩
theorem arg_u8 (ht : P.underlying t = some (.int .u8)) (h : TyArg P t v) : ∃ n : Nat, v = .int .u8 n ∧ n < 256 := by
 obtain ⟨n, rfl, hn⟩ := arg_int ht h
 obtain ⟨m, rfl, hm⟩ := wf_u8 hn
 exact ⟨m, rfl, hm⟩
theorem arg_u16 (ht : P.underlying t = some (.int .u16)) (h : TyArg P t v) : ∃ n : Nat, v = .int .u16 n ∧ n < 65536 := by
 obtain ⟨n, rfl, hn⟩ := arg_int ht h
 obtain ⟨m, rfl, hm⟩ := wf_u16 hn
 exact ⟨m, rfl, hm⟩
theorem arg_bool (ht : P.underlying t = some .bool) (h : TyArg P t v) : ∃ b, v = .bool b := by
 obtain ⟨ag, cs, ha, rfl, h⟩ := h
 rw [agg_bool ht] at ha; cases ha
 obtain ⟨n, rfl⟩ := ty_bool ht h
 exact ⟨n, rfl⟩
theorem map_ints {css : List (List V)} (he : P.underlying e = some (.int k)) (hc : ∀ cs ∈ css, Ty P e cs) : ∃ l : List Int, css.map (mkEl false) = Ns k l ∧ l.length = css.length ∧ ∀ n ∈ l, (Lit.int k n).wf = true := by
 induction css with
 | nil => exact ⟨[], rfl, rfl, by simp⟩
 | cons cs css ih =>
  obtain ⟨n, rfl, hn⟩ := ty_int he (hc cs (by simp))
  obtain ⟨l, h1, h2, h3⟩ := ih (fun cs h => hc cs (by simp [h]))
  refine ⟨n :: l, by simp [h1, Ns, mkEl], by simp [h2], fun m hm => ?_⟩
  rcases List.mem_cons.1 hm with rfl | hm
  ·exact hn
  ·exact h3 m hm
theorem arg_ints (ht : P.underlying t = some (.slice e)) (he : P.underlying e = some (.int k)) (h : TyArg P t v) : ∃ l : List Int, v = .vec (Ns k l) .any ∧ l.length ≤ maxLen ∧ ∀ n ∈ l, (Lit.int k n).wf = true := by
 obtain ⟨ag, cs, ha, rfl, h⟩ := h
 rw [agg_slice ht] at ha; cases ha
 obtain ⟨ag, css, ha, rfl, hc, hl⟩ := ty_slice ht h
 rw [agg_int he] at ha; cases ha
 obtain ⟨l, h1, h2, h3⟩ := map_ints he hc
 exact ⟨l, by simp [mkEl, h1], by omega, h3⟩
theorem Ns_words {l : List Int} (h : ∀ n ∈ l, (Lit.int .u64 n).wf = true) : ∃ ws : List Nat, Ns .u64 l = Ws ws ∧ ws.length = l.length ∧ ∀ w ∈ ws, w < 18446744073709551616 := by
 induction l with
 | nil => exact ⟨[], rfl, rfl, by simp⟩
 | cons n l ih =>
  obtain ⟨m, rfl, hm⟩ := wf_u64 (h n (by simp))
  obtain ⟨ws, h1, h2, h3⟩ := ih (fun n hn => h n (by simp [hn]))
  refine ⟨m :: ws, by simp [Ns, Ws] at h1 ⊢; exact h1, by simp [h2], fun w hw => ?_⟩
  rcases List.mem_cons.1 hw with rfl | hw
  ·exact hm
  ·exact h3 w hw
theorem arg_words (ht : P.underlying t = some (.slice e)) (he : P.underlying e = some (.int .u64)) (h : TyArg P t v) : ∃ ws : List Nat, v = .vec (Ws ws) .any ∧ ws.length ≤ maxLen ∧ ∀ w ∈ ws, w < 18446744073709551616 := by
 obtain ⟨l, rfl, h1, h2⟩ := arg_ints ht he h
 obtain ⟨ws, h3, h4, h5⟩ := Ns_words h2
 exact ⟨ws, by rw [h3], by omega, h5⟩
def Bs (l : List Bool) : List V := l.map V.bool
theorem Bs_length {l : List Bool} : (Bs l).length = l.length := by simp [Bs]
theorem Bs_get {l : List Bool} {i : Nat} : (Bs l)[i]? = (l[i]?).map V.bool := by simp [Bs]
theorem map_bools {css : List (List V)} (he : P.underlying e = some .bool) (hc : ∀ cs ∈ css, Ty P e cs) : ∃ l : List Bool, css.map (mkEl false) = Bs l ∧ l.length = css.length := by
 induction css with
 | nil => exact ⟨[], rfl, rfl⟩
 | cons cs css ih =>
  obtain ⟨n, rfl⟩ := ty_bool he (hc cs (by simp))
  obtain ⟨l, h1, h2⟩ := ih (fun cs h => hc cs (by simp [h]))
  exact ⟨n :: l, by simp [h1, Bs, mkEl], by simp [h2]⟩
theorem arg_bools (ht : P.underlying t = some (.slice e)) (he : P.underlying e = some .bool) (h : TyArg P t v) : ∃ l : List Bool, v = .vec (Bs l) .any ∧ l.length ≤ maxLen := by
 obtain ⟨ag, cs, ha, rfl, h⟩ := h
 rw [agg_slice ht] at ha; cases ha
 obtain ⟨ag, css, ha, rfl, hc, hl⟩ := ty_slice ht h
 rw [agg_bool he] at ha; cases ha
 obtain ⟨l, h1, h2⟩ := map_bools he hc
 exact ⟨l, by simp [mkEl, h1], by omega⟩
theorem flat_ints {parts : List (List V)} (he : P.underlying e = some (.int k)) (hp : ∀ cs ∈ parts, Ty P e cs) : ∃ l : List Int, parts.flatten = Ns k l ∧ l.length = parts.length ∧ ∀ n ∈ l, (Lit.int k n).wf = true := by
 induction parts with
 | nil => exact ⟨[], rfl, rfl, by simp⟩
 | cons cs css ih =>
  obtain ⟨n, rfl, hn⟩ := ty_int he (hp cs (by simp))
  obtain ⟨l, h1, h2, h3⟩ := ih (fun cs h => hp cs (by simp [h]))
  refine ⟨n :: l, by simp [h1, Ns], by simp [h2], fun m hm => ?_⟩
  rcases List.mem_cons.1 hm with rfl | hm
  ·exact hn
  ·exact h3 m hm
theorem arg_array {n : Nat} (ht : P.underlying t = some (.array n e)) (he : P.underlying e = some (.int k)) (h : TyArg P t v) : ∃ l : List Int, v = .agg (Ns k l) ∧ l.length = n ∧ ∀ n ∈ l, (Lit.int k n).wf = true := by
 obtain ⟨ag, cs, ha, rfl, h⟩ := h
 rw [agg_array ht] at ha; cases ha
 obtain ⟨parts, rfl, hl, hp⟩ := ty_array ht h
 obtain ⟨l, h1, h2, h3⟩ := flat_ints he hp
 exact ⟨l, by simp [mkEl, h1], by omega, h3⟩
theorem flat_bools {parts : List (List V)} (he : P.underlying e = some .bool) (hp : ∀ cs ∈ parts, Ty P e cs) : ∃ l : List Bool, parts.flatten = Bs l ∧ l.length = parts.length := by
 induction parts with
 | nil => exact ⟨[], rfl, rfl⟩
 | cons cs css ih =>
  obtain ⟨n, rfl⟩ := ty_bool he (hp cs (by simp))
  obtain ⟨l, h1, h2⟩ := ih (fun cs h => hp cs (by simp [h]))
  exact ⟨n :: l, by simp [h1, Bs], by simp [h2]⟩
theorem arg_barray {n : Nat} (ht : P.underlying t = some (.array n e)) (he : P.underlying e = some .bool) (h : TyArg P t v) : ∃ l : List Bool, v = .agg (Bs l) ∧ l.length = n := by
 obtain ⟨ag, cs, ha, rfl, h⟩ := h
 rw [agg_array ht] at ha; cases ha
 obtain ⟨parts, rfl, hl, hp⟩ := ty_array ht h
 obtain ⟨l, h1, h2⟩ := flat_bools he hp
 exact ⟨l, by simp [mkEl, h1], by omega⟩
theorem args_1v {vs : List V} (h : TyArgs P [t] vs) : ∃ a, vs = [a] ∧ TyArg P t a := by
 obtain ⟨a, r, rfl, h1, rfl⟩ := h
 exact ⟨a, rfl, h1⟩
theorem args_2v {vs : List V} {t2 : TypeId} (h : TyArgs P [t, t2] vs) : ∃ a b, vs = [a, b] ∧ TyArg P t a ∧ TyArg P t2 b := by
 obtain ⟨a, r, rfl, h1, h2⟩ := h
 obtain ⟨b, rfl, h3⟩ := args_1v h2
 exact ⟨a, b, rfl, h1, h3⟩
theorem args_3v {vs : List V} {t2 t3 : TypeId} (h : TyArgs P [t, t2, t3] vs) : ∃ a b c, vs = [a, b, c] ∧ TyArg P t a ∧ TyArg P t2 b ∧ TyArg P t3 c := by
 obtain ⟨a, r, rfl, h1, h2⟩ := h
 obtain ⟨b, c, rfl, h3, h4⟩ := args_2v h2
 exact ⟨a, b, c, rfl, h1, h3, h4⟩
end
end Go.Ab
