/- Chapter 34: comparisons: the statement. -/
import Derived.Test.YtgfnhkedfmnijaaB8
import Derived.Test.YtgfnhkedfmnijaaT34a
set_option linter.unusedVariables false
set_option linter.unusedSimpArgs false
namespace Go.Ab.Ytgfnhkedfmnijaa

section
variable {h : H} {K : Out → H → Prop} {id p q : Nat} {F : Nat → Prop} {gs : List Gt} {vs : List Nat} {outs : List Int} {ls : List (List Nat)} {xs : List Nat}

/-- A row of inputs as wires. -/
theorem rowVals {n0 : Nat} {ws : List Nat} {vs : List Nat} (hv : ∀ j, (hj : j < ws.length) → vs.getD (n0 + j) 0 = ws[j]) : ((List.range' n0 ws.length).map fun x => vs.getD x 0) = ws := by
  apply List.ext_getElem
  · simp
  · intro i h1 h2
    simp only [List.getElem_map, List.getElem_range', Nat.one_mul]
    exact hv i h2

theorem rowBits {n0 : Nat} {ws : List Nat} (hl : n0 + ws.length ≤ gs.length) (hv : ∀ j, (hj : j < ws.length) → vs.getD (n0 + j) 0 = ws[j]) (hb : ∀ w ∈ ws, w ≤ 1) : BitsAt gs vs (List.range' n0 ws.length) := by
  intro x hx
  obtain ⟨j, hj, rfl⟩ := List.mem_range'.1 hx
  rw [Nat.one_mul]
  exact ⟨by omega, by rw [hv j hj]; exact hb _ (List.getElem_mem hj)⟩

theorem wbits {l : List Bool} : ∀ w ∈ l.map Bool.toNat, w ≤ 1 := by
  intro w hw
  obtain ⟨b, _, rfl⟩ := List.mem_map.1 hw
  exact Bool.toNat_le b

/-- Both rows are wired: inputs 1 and 2. -/
structure Rows2 (p q : Nat) (u v : List Nat) (gs : List Gt) (vs : List Nat) : Prop where
  good : Rgt p q [u, v] gs vs
  len : gs.length = u.length + v.length
  mul : muls gs = 0
  inp : ∀ f, cnt gs f = (if f = 1 then u.length else 0) + (if f = 2 then v.length else 0)
  val1 : ∀ j, (hj : j < u.length) → vs.getD (0 + j) 0 = u[j]
  val2 : ∀ j, (hj : j < v.length) → vs.getD (u.length + j) 0 = v[j]

theorem rows2 {u v : List Nat} {g1 g2 : List Gt} {v1 v2 : List Nat} (w1 : GrewN p q [u, v] [] [] 1 u g1 v1) (w2 : GrewN p q [u, v] g1 v1 2 v g2 v2) : Rows2 p q u v g2 v2 := by
  have l1 := w1.len
  simp only [List.length_nil, Nat.zero_add] at l1
  refine ⟨w2.good, by rw [w2.len, l1], by rw [w2.mul, w1.mul]; rfl, fun f => by rw [w2.inp, w1.inp]; simp [cnt], fun j hj => ?_, fun j hj => ?_⟩
  · rw [w2.pre _ (by omega)]; exact w1.val j hj
  · have := w2.val j hj; rwa [l1] at this

theorem Rows2.fit {u v : List Nat} {gs1 : List Gt} {vs1 : List Nat} {m n : Nat} (r : Rows2 p q u v gs vs) (w : Grew p q [u, v] gs vs m n gs1 vs1) (hu : ∀ w ∈ u, w ≤ 1) (hv : ∀ w ∈ v, w ≤ 1) : FitsC p gs1 [u, v] := by
  have hp := r.good.two
  refine fits_of w.good (by simp) (cnt_two (by rw [w.inp, r.inp]; simp) (by rw [w.inp, r.inp]; simp) (fun f h1 h2 => by rw [w.inp, r.inp]; simp [h1, h2])) (fun l hl x hx => ?_)
  simp only [List.mem_cons, List.not_mem_nil, or_false] at hl
  rcases hl with rfl | rfl
  · have := hu x hx; omega
  · have := hv x hx; omega

end
end Go.Ab.Ytgfnhkedfmnijaa
