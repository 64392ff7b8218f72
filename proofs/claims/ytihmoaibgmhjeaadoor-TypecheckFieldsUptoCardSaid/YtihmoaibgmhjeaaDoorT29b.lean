/- The fields that a program fits. -/
import Derived.Test.YtihmoaibgmhjeaaDoorT29a
set_option linter.unusedVariables false
set_option linter.unusedSimpArgs false
namespace Go.Ab
theorem Supp_exp {a ea b eb : Nat} (ha : Supp a ea) (hb : Supp b eb) (h : a ≤ b) : ea ≤ eb := by unfold Supp at ha hb; omega
theorem fields_end {r : TR TS} {ea eb : Nat} {G : Prop} (hle : ea ≤ eb) (h1 : errT r ≠ 0 → G)
    (h2 : errT r = 0 → (fieldE r (ea : Int) = 0 → fieldE r (eb : Int) = 0) → (fieldE r (ea : Int) = 0 ↔ ((mostT r : Nat) : Int) < (ea : Int)) → (fieldE r (ea : Int) = 0 ∨ fieldE r (ea : Int) = 11) → G) : G := by
  by_cases he : errT r = 0
  · have f : ∀ q, fieldE r q = if (mostT r : Int) > q - 1 then 11 else 0 := fun q => by
      unfold fieldE
      rw [if_neg (fun h => h he)]
    refine h2 he ?_ ?_ ?_
    · rw [f, f]
      intro h
      by_cases c : (mostT r : Int) > (ea : Int) - 1
      · rw [if_pos c] at h; cases h
      · rw [if_neg (by omega)]
    · rw [f]
      by_cases c : (mostT r : Int) > (ea : Int) - 1
      · rw [if_pos c]
        exact ⟨fun h => absurd h (by decide), fun h => absurd h (by omega)⟩
      · rw [if_neg c]
        exact ⟨fun _ => by omega, fun _ => rfl⟩
    · rw [f]
      by_cases c : (mostT r : Int) > (ea : Int) - 1
      · exact .inr (if_pos c)
      · exact .inl (if_neg c)
  · exact h1 he

namespace YtihmoaibgmhjeaaDoor
section
variable {h : H} {K : Out → H → Prop}

theorem fields29 {p : Prg} {x y : Nat} (ok : POk p) (hb : p.v.bulk ≤ 1048576) (hx : x < 18446744073709551616) (hy : y < 18446744073709551616) (hK : ∀ h', K (.ret (.bool true)) h') : R 6 [p.v, .agg [W x, W y]] h K := by
  refine run6 (Nat.le_of_ble_eq_true rfl) ?_
  have hv0 : p.v = V.agg [.vec (p.ins.map InD.v) .any, .vec (p.arrays.map ArD.v) .any, .vec (p.body.map Stm.v) .any] := rfl
  simp -dsimp -implicitDefEqProofs only [↓STP, STQ, seval, ir6, hv0]
  rw [← hv0]
  refine small29 ok hb fun b hvp => ?_
  cases b with
  | false =>
    simp -dsimp -implicitDefEqProofs only [↓STP, STQ, seval]
    refine awake29 fun h' _ => ?_
    simp -dsimp -implicitDefEqProofs only [↓STP, STQ, seval]
    exact hK _
  | true =>
  have v := (hvp rfl).vt ok
  simp -dsimp -implicitDefEqProofs only [↓STP, STQ, seval]
  refine fit_spec hx fun a ea sa => ?_
  simp -dsimp -implicitDefEqProofs only [↓STP, STQ, seval]
  refine fit_spec hy fun b eb sb => ?_
  by_cases c : (b : Int) < (a : Int)
  · simp -dsimp -implicitDefEqProofs only [↓STP, STQ, seval, eq_true c]
    refine maxG v fun h1 u1 => ?_
    simp -dsimp -implicitDefEqProofs only [↓STP, STQ, seval, hv0]
    rw [← hv0]
    refine checkFieldG v sb fun h2 u2 => ?_
    simp -dsimp -implicitDefEqProofs only [↓STP, STQ, seval, hv0]
    rw [← hv0]
    refine checkFieldG v sa fun h3 u3 => ?_
    exact fields_end (Supp_exp sb sa (by omega)) (fun he => by
      simp -dsimp -implicitDefEqProofs only [↓STP, STQ, seval, eq_false (show ¬ errT (checkT p) = 0 from he)]
      refine awake29 fun h' _ => ?_
      have f1 : fieldE (checkT p) ((eb : Nat) : Int) = errT (checkT p) := by unfold fieldE; rw [if_pos he]
      have f2 : fieldE (checkT p) ((ea : Nat) : Int) = errT (checkT p) := by unfold fieldE; rw [if_pos he]
      rw [f1, f2]
      simp -dsimp -implicitDefEqProofs only [↓STP, STQ, seval, eq_self]
      exact hK _) (fun he h1 h2 h3 => by
      simp -dsimp -implicitDefEqProofs only [↓STP, STQ, seval, eq_true he]
      refine awake29 fun h' _ => ?_
      have hq := (sb).eq
      by_cases ca : fieldE (checkT p) ((eb : Nat) : Int) = 0
      · have cb := h1 ca
        have hlt := (h2.1 ca)
        simp -dsimp -implicitDefEqProofs only [↓STP, STQ, seval, eq_true ca, eq_true cb]
        refine exponent_spec hq.2.2.2 fun x hx => ?_
        have hxe : x = eb := by
          rcases hx with ⟨q', hs', rfl⟩ | ⟨hn, _⟩
          · have hs := sb
            have : q' = eb := by unfold Supp at hs hs'; omega
            rw [this]
          · exact absurd sb (hn _)
        subst hxe
        simp -dsimp -implicitDefEqProofs only [↓STP, STQ, seval, eq_true ca, eq_true hlt]
        exact hK _
      · have hnl : ¬ ((mostT (checkT p) : Nat) : Int) < ((eb : Nat) : Int) := fun h => ca (h2.2 h)
        have h11 := h3.resolve_left ca
        simp -dsimp -implicitDefEqProofs only [↓STP, STQ, seval, eq_false ca, h11]
        refine exponent_spec hq.2.2.2 fun x hx => ?_
        have hxe : x = eb := by
          rcases hx with ⟨q', hs', rfl⟩ | ⟨hn, _⟩
          · have hs := sb
            have : q' = eb := by unfold Supp at hs hs'; omega
            rw [this]
          · exact absurd sb (hn _)
        subst hxe
        simp -dsimp -implicitDefEqProofs only [↓STP, STQ, seval, eq_false ca, eq_false hnl, h11]
        exact hK _)
  · simp -dsimp -implicitDefEqProofs only [↓STP, STQ, seval, eq_false c]
    refine maxG v fun h1 u1 => ?_
    simp -dsimp -implicitDefEqProofs only [↓STP, STQ, seval, hv0]
    rw [← hv0]
    refine checkFieldG v sa fun h2 u2 => ?_
    simp -dsimp -implicitDefEqProofs only [↓STP, STQ, seval, hv0]
    rw [← hv0]
    refine checkFieldG v sb fun h3 u3 => ?_
    exact fields_end (Supp_exp sa sb (by omega)) (fun he => by
      simp -dsimp -implicitDefEqProofs only [↓STP, STQ, seval, eq_false (show ¬ errT (checkT p) = 0 from he)]
      refine awake29 fun h' _ => ?_
      have f1 : fieldE (checkT p) ((ea : Nat) : Int) = errT (checkT p) := by unfold fieldE; rw [if_pos he]
      have f2 : fieldE (checkT p) ((eb : Nat) : Int) = errT (checkT p) := by unfold fieldE; rw [if_pos he]
      rw [f1, f2]
      simp -dsimp -implicitDefEqProofs only [↓STP, STQ, seval, eq_self]
      exact hK _) (fun he h1 h2 h3 => by
      simp -dsimp -implicitDefEqProofs only [↓STP, STQ, seval, eq_true he]
      refine awake29 fun h' _ => ?_
      have hq := (sa).eq
      by_cases ca : fieldE (checkT p) ((ea : Nat) : Int) = 0
      · have cb := h1 ca
        have hlt := (h2.1 ca)
        simp -dsimp -implicitDefEqProofs only [↓STP, STQ, seval, eq_true ca, eq_true cb]
        refine exponent_spec hq.2.2.2 fun x hx => ?_
        have hxe : x = ea := by
          rcases hx with ⟨q', hs', rfl⟩ | ⟨hn, _⟩
          · have hs := sa
            have : q' = ea := by unfold Supp at hs hs'; omega
            rw [this]
          · exact absurd sa (hn _)
        subst hxe
        simp -dsimp -implicitDefEqProofs only [↓STP, STQ, seval, eq_true ca, eq_true hlt]
        exact hK _
      · have hnl : ¬ ((mostT (checkT p) : Nat) : Int) < ((ea : Nat) : Int) := fun h => ca (h2.2 h)
        have h11 := h3.resolve_left ca
        simp -dsimp -implicitDefEqProofs only [↓STP, STQ, seval, eq_false ca, h11]
        refine exponent_spec hq.2.2.2 fun x hx => ?_
        have hxe : x = ea := by
          rcases hx with ⟨q', hs', rfl⟩ | ⟨hn, _⟩
          · have hs := sa
            have : q' = ea := by unfold Supp at hs hs'; omega
            rw [this]
          · exact absurd sa (hn _)
        subst hxe
        simp -dsimp -implicitDefEqProofs only [↓STP, STQ, seval, eq_false ca, eq_false hnl, h11]
        exact hK _)

end
end YtihmoaibgmhjeaaDoor
end Go.Ab
