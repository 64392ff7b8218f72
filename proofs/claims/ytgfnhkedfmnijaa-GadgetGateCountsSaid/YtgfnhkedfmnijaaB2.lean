/- The circuit builder's operations, with the values of what they build. -/
import Derived.Test.YtgfnhkedfmnijaaC5
import Derived.Test.YtgfnhkedfmnijaaF2
set_option linter.unusedVariables false
set_option linter.unusedSimpArgs false
namespace Go.Ab.Ytgfnhkedfmnijaa

section
variable {h : H} {K : Out → H → Prop} {id p q : Nat} {F : Nat → Prop} {gs : List Gt} {vs : List Nat} {outs : List Int} {ls : List (List Nat)}

/-- A builder whose gates are right. -/
structure Bd (h : H) (id : Nat) (F : Nat → Prop) (p q : Nat) (ls : List (List Nat)) (gs : List Gt) (vs : List Nat) (outs : List Int) : Prop where
  at_ : BuAt h id F p gs outs
  good : Rgt p q ls gs vs
  few : gs.length < 100000

/-- What a call that adds 'm' products, 'n' gates and yields the value 'x' leaves. -/
abbrev Gives (h : H) (id : Nat) (F : Nat → Prop) (p q : Nat) (ls : List (List Nat)) (gs : List Gt) (vs : List Nat) (outs : List Int) (K : Out → H → Prop) (m n x : Nat) : Prop :=
  ∀ h' F' gs' vs' (i : Nat), BuAt h' id F' p gs' outs → Evo h F h' F' → Grew p q ls gs vs m n gs' vs' → i < gs'.length → vs'.getD i 0 = x → K (.ret (I i)) h'

theorem const_g {k : Nat} (b : Bd h id F p q ls gs vs outs) (hk : k < p) (hK : Gives h id F p q ls gs vs outs K 0 1 k) : R 19 [.ptr id 0, W k] h K := by
  have := b.few
  refine const19 b.at_ (by omega) fun h' F' b' e => ?_
  obtain ⟨g1, g2⟩ := grew_one (g := ⟨2, 0, 0, 0, k⟩) (x := k) (m := 0) b.good (.const k hk) rfl hk (by simp) rfl
  exact hK h' F' _ _ gs.length b' e g1 (by simp) g2

theorem add_g {x y : Nat} (b : Bd h id F p q ls gs vs outs) (hx : x < gs.length) (hy : y < gs.length) (hK : Gives h id F p q ls gs vs outs K 0 1 ((vs.getD x 0 + vs.getD y 0) % p)) : R 15 [.ptr id 0, I x, I y] h K := by
  have := b.few
  refine add15 b.at_ (by omega) fun h' F' b' e => ?_
  obtain ⟨g1, g2⟩ := grew_one (g := ⟨3, 0, x, y, 0⟩) (m := 0) b.good (.add x y hx hy) rfl (Nat.mod_lt _ b.good.p0.1) (by simp) rfl
  exact hK h' F' _ _ gs.length b' e g1 (by simp) g2

theorem sub_g {x y : Nat} (b : Bd h id F p q ls gs vs outs) (hx : x < gs.length) (hy : y < gs.length) (hK : Gives h id F p q ls gs vs outs K 0 1 ((vs.getD x 0 + p - vs.getD y 0) % p)) : R 16 [.ptr id 0, I x, I y] h K := by
  have := b.few
  refine sub16 b.at_ (by omega) fun h' F' b' e => ?_
  obtain ⟨g1, g2⟩ := grew_one (g := ⟨4, 0, x, y, 0⟩) (m := 0) b.good (.sub x y hx hy) rfl (Nat.mod_lt _ b.good.p0.1) (by simp) rfl
  exact hK h' F' _ _ gs.length b' e g1 (by simp) g2

theorem scale_g {k x : Nat} (b : Bd h id F p q ls gs vs outs) (hk : k < p) (hx : x < gs.length) (hK : Gives h id F p q ls gs vs outs K 0 1 (k * vs.getD x 0 % p)) : R 18 [.ptr id 0, W k, I x] h K := by
  have := b.few
  refine scale18 b.at_ (by omega) fun h' F' b' e => ?_
  obtain ⟨g1, g2⟩ := grew_one (g := ⟨5, 0, x, 0, k⟩) (m := 0) b.good (.scale k x hk hx) rfl (Nat.mod_lt _ b.good.p0.1) (by simp) rfl
  exact hK h' F' _ _ gs.length b' e g1 (by simp) g2

theorem mul_g {x y : Nat} (b : Bd h id F p q ls gs vs outs) (hx : x < gs.length) (hy : y < gs.length) (hK : Gives h id F p q ls gs vs outs K 1 1 (vs.getD x 0 * vs.getD y 0 % p)) : R 17 [.ptr id 0, I x, I y] h K := by
  have := b.few
  refine mul17 b.at_ (by omega) fun h' F' b' e => ?_
  obtain ⟨g1, g2⟩ := grew_one (g := ⟨6, 0, x, y, 0⟩) (m := 1) b.good (.mul x y hx hy) rfl (Nat.mod_lt _ b.good.p0.1) (by simp) rfl
  exact hK h' F' _ _ gs.length b' e g1 (by simp) g2

end
end Go.Ab.Ytgfnhkedfmnijaa
