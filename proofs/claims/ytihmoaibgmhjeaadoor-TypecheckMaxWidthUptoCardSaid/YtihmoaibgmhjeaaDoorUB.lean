import Derived.Test.YtihmoaibgmhjeaaDoorUA
set_option linter.unusedVariables false
set_option linter.unusedSimpArgs false
namespace Go.Ab
namespace YtihmoaibgmhjeaaDoor
section
variable {K : Out → H → Prop} {p : Prg}
theorem branchR {k : Int} {s : ByteArray} {e : List Exp} {a b : List Stm} {kk : Kn} {lv : Nat} (hp : PV p) (ha : SqSs p a (lv + 1)) (hb : SqSs p b (lv + 1)) (ga : GoodT p (stmtsT p a)) (gb : GoodT p (stmtsT p b)) {L : Lr} {σ : TS} {h : H} (A : Rt p L σ h) (ok : TOk p σ) (hifs : σ.ifs ≤ lv) (hlv : lv ≤ 100) (hla : p.arrays.length ≤ 1000)
  (hK : EndR p L h K (if kk.kind ≠ 2 then .error 5 else andT (stmtsT p a { σ with ifs := σ.ifs + 1 }) fun σ1 => andT (stmtsT p b { σ1 with env := σ.env }) fun σ2 =>
   .ok { σ2 with ifs := σ.ifs, env := { σ.env with vars := bothV σ.env.vars σ1.env.vars σ2.env.vars, words := maxW σ2.env.words σ1.env.words } })) :
  R 67 [.ptr L.x 0, (Stm.mk k s e a b).v, kk.v] h K := by
 refine run67 (Nat.le_of_ble_eq_true rfl) ?_
 by_cases c : kk.kind = 2
 rotate_left
 ·rw [if_pos c] at hK
  simp -dsimp -implicitDefEqProofs only [↓STP, STQ, seval, ir67, kn_cells, Stm.v_mk, eq_false c]
  exact hK (by decide) _ _ (Fw.refl _ _)
 rw [if_neg (fun h => h c)] at hK
 have gx := get_of A.x
 have w1 : IntKind.i64.wrap ((σ.ifs : Int) + 1) = ((σ.ifs + 1 : Nat) : Int) := by rw [wrap_i64] <;> omega
 have el : L.es.length ≤ 10000 := Nat.le_trans A.vl ok.steps
 have wl := ok.env.wlen
 simp -dsimp -implicitDefEqProofs only [↓STP, STQ, seval, ir67, kn_cells, Stm.v_mk, eq_true c, gx, Lr.cs, Lr.ov_out]
 rw [app_copy nm_elems (by rw [List.length_map]; omega)]
 simp -dsimp -implicitDefEqProofs only [↓STP, STQ, seval, gx, Lr.cs, Lr.ov_out, eq_self]
 have lto : ∀ id ∈ L.own, id < h.next := A.lt
 refine copiedR (wss := σ.env.words) A.len (by omega) ?_ (fun i ws hi => ?_) (fun ws hw => ?_) (fun h1 o rs cp => ?_)
 ·have h0 := A.o
  have hm := fun id (q : L.o = some id) => lto id (L.o_mem q)
  revert h0 hm
  cases L.o with
  | none => intro h0 _; exact h0
  | some id => intro h0 hm; exact ⟨h0, hm id rfl⟩
 ·obtain ⟨id, q1, q2⟩ := A.ws i ws hi
  exact ⟨id, q1, q2, lto id (L.r_mem (List.mem_of_getElem? q1))⟩
 ·obtain ⟨i, hi⟩ := List.mem_iff_getElem?.1 hw
  have hil : i < p.arrays.length := by
   have := (List.getElem?_eq_some_iff.1 hi).1
   omega
  have hd := List.getElem?_eq_getElem hil
  have hds := hp.ars _ (List.getElem_mem hil)
  have := (ok.env.words i ws _ hi hd).1
  omega
 have A1 : Rt p L σ h1 := A.frame cp.nx fun id hid => cp.old id (lto id hid)
 have F1 : Fw L L h h1 := ⟨cp.nx, rfl, fun id hl _ => cp.old id hl, fun id hid => .inl hid⟩
 have gx1 := get_of A1.x
 obtain ⟨A2, F2⟩ := A1.count { σ with ifs := σ.ifs + 1 } rfl (Nat.le_refl _)
 have ok2 : TOk p { σ with ifs := σ.ifs + 1 } := ⟨ok.env, ok.steps, ok.most⟩
 cases o
 all_goals
  simp -dsimp -implicitDefEqProofs only [↓STP, STQ, seval, gx1, Lr.cs, w1, storeV, ovO]
  refine ha L _ (h1.set L.x (.cells (L.cs p { σ with ifs := σ.ifs + 1 }))) _ A2 ok2 (by show σ.ifs + 1 ≤ lv + 1; omega) ?_
  have hn2 : (h1.set L.x (.cells (L.cs p { σ with ifs := σ.ifs + 1 }))).next = h1.next := rfl
  have far2 : ∀ id, h.next ≤ id → (h1.set L.x (.cells (L.cs p { σ with ifs := σ.ifs + 1 }))).objs id = h1.objs id := fun id hid => by
   rw [set_objs, if_neg (by have := lto _ L.x_mem; omega)]
  generalize h1.set L.x (.cells (L.cs p { σ with ifs := σ.ifs + 1 })) = h2 at *
  have F12 := F1.trans F2
  cases hr : stmtsT p a { σ with ifs := σ.ifs + 1 } with
  | error er =>
   rw [hr] at hK
   intro hne L1 h3 F3
   simp -dsimp -implicitDefEqProofs only [↓STP, STQ, seval, eq_false hne]
   exact hK hne _ _ (F12.trans F3)
  | ok σ1 =>
  rw [hr, andT_ok] at hK
  have kp1 := ga _ _ ok2 hr
  intro L1 h3 A3 F3
  have hx1 : L1.x = L.x := F3.x
  have gx3 := get_of A3.x
  rw [hx1] at gx3
  have hnx3 := F3.nx
  have st1 : σ.steps ≤ σ1.steps := kp1.steps
  have lp1 : σ1.env.loops = σ.env.loops := kp1.loops
  have if1 : σ1.ifs = σ.ifs + 1 := kp1.ifs
  have keep3 : ∀ id, h.next ≤ id → id < h1.next → h3.objs id = h1.objs id := fun id q1 q2 => by
   rw [F3.same id (by omega) (fun hm => by have := lto id hm; omega), far2 id q1]
  have A4 := A.swap A3 hx1 cp keep3 (by omega) lp1 st1 (cpA_or (L.es.map nmV).length)
  have ok4 : TOk p { σ1 with env := σ.env } := ⟨ok.env, kp1.ok.steps, kp1.ok.most⟩
  simp -dsimp -implicitDefEqProofs only [↓STP, STQ, seval, gx3, Lr.cs]
  rw [app_copy nm_elems (by rw [List.length_map]; omega)]
  have lpe : lps σ1.env = lps σ.env := by unfold lps; rw [lp1]
  simp -dsimp -implicitDefEqProofs only [↓STP, STQ, seval, gx3, Lr.cs, storeV, cp_outs, get_set, set_set', lpe]
  refine hb _ { σ1 with env := σ.env } (h3.set L.x (.cells (Lr.cs p _ { σ1 with env := σ.env }))) _ A4 ok4 (by show σ1.ifs ≤ lv + 1; omega) ?_
  have far4 : ∀ cs id, id ≠ L.x → (h3.set L.x cs).objs id = h3.objs id := fun cs id hid => by rw [set_objs, if_neg hid]
  have hcop := A4
  clear A4
  generalize hh4 : h3.set L.x (.cells (Lr.cs p _ { σ1 with env := σ.env })) = h4 at hcop ⊢
  have far4 : ∀ id, id ≠ L.x → h4.objs id = h3.objs id := fun id hid => by rw [← hh4]; exact far4 _ id hid
  have hn4 : h4.next = h3.next := by rw [← hh4]; rfl
  clear hh4
  have cge := cp.ge
  have F123 := F12.trans F3
  have xo := lto _ L.x_mem
  generalize hL2 : ({ L1 with x := L.x, es := L.es, vc := cpA (L.es.map nmV).length, o := _, wc := .any, rs := rs } : Lr) = L2 at hcop ⊢
  have hx2 : L2.x = L.x := by rw [← hL2]
  have own2 : ∀ id ∈ L2.own, id = L.x ∨ (h.next ≤ id ∧ id < h1.next) := fun id hid => by
   rw [← hL2] at hid
   rcases List.mem_cons.1 hid with rfl | hid
   ·exact .inl rfl
   ·exact .inr (cge id hid)
  clear hL2
  have F4 : Fw L L2 h h4 := ⟨by have := F123.nx; omega, hx2, fun id q1 q2 => by
   rw [far4 id (fun q => q2 (q ▸ L.x_mem))]; exact F123.same id q1 q2, fun id hid => (own2 id hid).elim (fun q => .inl (q ▸ L.x_mem)) (fun q => .inr q.1)⟩
  cases hr2 : stmtsT p b { σ1 with env := σ.env } with
  | error er =>
   rw [hr2] at hK
   intro hne L3 h5 F5
   simp -dsimp -implicitDefEqProofs only [↓STP, STQ, seval, eq_false hne]
   exact hK hne _ _ (F4.trans F5)
  | ok σ2 =>
  rw [hr2, andT_ok] at hK
  have kp2 := gb _ _ ok4 hr2
  intro L3 h5 A5 F5
  have hx3 : L3.x = L.x := F5.x.trans hx2
  have gx5 := get_of A5.x
  rw [hx3] at gx5
  have if2 : σ2.ifs = σ.ifs + 1 := kp2.ifs.trans if1
  have w2 : IntKind.i64.wrap ((σ2.ifs : Int) - 1) = (σ.ifs : Int) := by rw [wrap_i64] <;> omega
  have l1 : L1.es.length ≤ 10000 := Nat.le_trans A3.vl kp1.ok.steps
  have l3 : L3.es.length ≤ 10000 := Nat.le_trans A5.vl kp2.ok.steps
  have st2 : σ.steps ≤ σ2.steps := Nat.le_trans st1 kp2.steps
  simp -dsimp -implicitDefEqProofs only [↓STP, STQ, seval, gx5, Lr.cs, w2, storeV, get_set, set_set']
  refine bothR (by omega) (by omega) (by omega) ?_
  simp -dsimp -implicitDefEqProofs only [↓STP, STQ, seval, storeV, get_set, set_set']
  obtain ⟨A6, F6⟩ := A5.write (L' := { L3 with es := bothE L.es L1.es L3.es, vc := .any, x := L.x }) (σ' := { σ2 with ifs := σ.ifs, env := { σ2.env with vars := bothV σ.env.vars σ1.env.vars σ2.env.vars } }) hx3.symm rfl rfl rfl
   (fun t => by
    show findL t (bothE L.es L1.es L3.es) = (bothV σ.env.vars σ1.env.vars σ2.env.vars t).map _
    rw [findL_both, A.es, A3.es, A5.es]
    unfold bothV
    cases σ.env.vars t with
    | none => rfl
    | some r =>
     cases σ1.env.vars t with
     | none => rfl
     | some r1 => cases σ2.env.vars t with
      | none => rfl
      | some r2 =>
       simp only [Option.map_some, bothK, both1]
       split <;> rfl) (Nat.le_trans bothE_len (Nat.le_trans A.vl st2)) A5.ll (.inl rfl) A5.cl A5.cw
  rw [hx3] at A6 F6
  have F46 := (F4.trans F5).trans F6
  have wl1 := kp1.ok.env.wlen
  have wl2 := kp2.ok.env.wlen
  have wr1 : L1.rs.length = σ1.env.words.length := A3.len
  have lp2 : σ2.env.loops = σ.env.loops := kp2.loops
  have keepw : ∀ id ∈ L1.own, id ≠ L.x → id ∉ L3.own ∧ h5.objs id = h3.objs id := fun id hid hne => by
   have q1 := A3.lt id hid
   have q2 : id ∉ L2.own := fun hm => by
    rcases own2 id hm with q | q
    ·exact hne q
    ·rcases F3.own id hid with q' | q'
     ·have := lto id q'; omega
     ·omega
   refine ⟨fun hm => ?_, ?_⟩
   ·rcases F5.own id hm with q | q
    ·exact q2 q
    ·omega
   ·rw [F5.same id (by omega) q2]; exact far4 id hne
  have keep6 : ∀ id ∈ L1.own, id ≠ L.x → (h5.set L.x (.cells (Lr.cs p { L3 with es := bothE L.es L1.es L3.es, vc := .any, x := L.x } { σ2 with ifs := σ.ifs, env := { σ2.env with vars := bothV σ.env.vars σ1.env.vars σ2.env.vars } }))).objs id = h3.objs id := fun id hid hne => by
   rw [set_objs, if_neg hne]; exact (keepw id hid hne).2
  have own4 : ∀ id ∈ L1.own, id ≠ L.x → id ∉ ({ L3 with es := bothE L.es L1.es L3.es, vc := .any, x := L.x } : Lr).own := fun id hid hne hm => by
   rcases List.mem_cons.1 hm with q | q
   ·exact hne q
   ·exact (keepw id hid hne).1 (List.mem_cons_of_mem _ q)
  have fin : ∀ h', Rt p { L3 with es := bothE L.es L1.es L3.es, vc := .any, x := L.x } { σ2 with ifs := σ.ifs, env := { vars := bothV σ.env.vars σ1.env.vars σ2.env.vars, loops := σ2.env.loops, words := maxW σ2.env.words σ1.env.words } } h' → Fw L { L3 with es := bothE L.es L1.es L3.es, vc := .any, x := L.x } h h' → K (.ret (I 0)) h' := fun h' A' F' => by
   rw [lp2] at A'
   exact hK _ _ A' F'
  clear hK
  cases ho1 : L1.o with
  | none =>
   have hov : L1.ov = .vec [] L1.wc := by unfold Lr.ov; rw [ho1]
   have hrs : L1.rs = [] := by have := A3.o; rw [ho1] at this; exact this
   have hz1 : σ1.env.words = [] := List.eq_nil_of_length_eq_zero (by rw [← wr1, hrs]; rfl)
   have hz2 : σ2.env.words = [] := List.eq_nil_of_length_eq_zero (by rw [hz1] at wl1; rw [wl2, ← wl1]; rfl)
   have hm0 : maxW σ2.env.words σ1.env.words = σ2.env.words := by rw [hz1, hz2]; rfl
   rw [hm0] at fin
   have hfin := fin _ A6 F46
   rw [hov]
   refine codeT_loop (fun k s => ∃ c n, s = ⟨upd (upd (upd ρ0 0 (.ptr L.x 0)) 11 (.vec [] c)) 12 (I 0), m0, n, [], h5.set L.x (.cells (Lr.cs p { L3 with es := bothE L.es L1.es L3.es, vc := .any, x := L.x } { σ2 with ifs := σ.ifs, env := { σ2.env with vars := bothV σ.env.vars σ1.env.vars σ2.env.vars } }))⟩) (i := 0) ?_ ?_ mono
   ·rcases A3.cw with q | q
    ·rw [q]; exact ⟨.any, 0, by simp -dsimp -implicitDefEqProofs only [↓STP, STQ, seval] <;> rfl⟩
    ·rw [q]; exact ⟨.own 0, 1, by simp -dsimp -implicitDefEqProofs only [↓STP, STQ, seval] <;> rfl⟩
   ·rintro k s ⟨c, n, rfl⟩
    simp -dsimp -implicitDefEqProofs only [↓STP, STQ, seval, Int.lt_irrefl]
    exact hfin
  | some o1 =>
   have hov : L1.ov = .ref o1 0 L1.rs.length 1 := by unfold Lr.ov; rw [ho1]
   have ho3 : h3.objs o1 = some (.cells (L1.rs.map refV)) := by have := A3.o; rw [ho1] at this; exact this
   have o1m : o1 ∈ L1.own := L1.o_mem ho1
   have o1x : o1 ≠ L.x := by have := A3.xo ho1; rw [hx1] at this; exact this
   rw [hov]
   have A6' : Rt p { L3 with es := bothE L.es L1.es L3.es, vc := .any, x := L.x } { σ2 with ifs := σ.ifs, env := { vars := bothV σ.env.vars σ1.env.vars σ2.env.vars, loops := σ2.env.loops, words := mixW σ2.env.words σ1.env.words 0 } } (h5.set L.x (.cells (Lr.cs p { L3 with es := bothE L.es L1.es L3.es, vc := .any, x := L.x } { σ2 with ifs := σ.ifs, env := { σ2.env with vars := bothV σ.env.vars σ1.env.vars σ2.env.vars } }))) := by
    rw [mix_zero]; exact A6
   refine codeT_loop (fun k s => ∃ i h', i ≤ L1.rs.length ∧ k = L1.rs.length - i ∧ Rt p { L3 with es := bothE L.es L1.es L3.es, vc := .any, x := L.x } { σ2 with ifs := σ.ifs, env := { vars := bothV σ.env.vars σ1.env.vars σ2.env.vars, loops := σ2.env.loops, words := mixW σ2.env.words σ1.env.words i } } h' ∧
    Fw L { L3 with es := bothE L.es L1.es L3.es, vc := .any, x := L.x } h h' ∧ (∀ id ∈ L1.own, id ≠ L.x → h'.objs id = h3.objs id) ∧
    s = ⟨upd (upd (upd ρ0 0 (.ptr L.x 0)) 11 (.ref o1 0 L1.rs.length 1)) 12 (I i), m0, 0, [], h'⟩) (i := L1.rs.length) ⟨0, _, Nat.zero_le _, rfl, A6', F46, keep6, by simp -dsimp -implicitDefEqProofs only [↓STP, STQ, seval] <;> rfl⟩ ?_ mono
   clear A6 A6' F46 keep6 F6
   generalize ({ L3 with es := bothE L.es L1.es L3.es, vc := .any, x := L.x } : Lr) = L4 at *
   rintro k s ⟨i, h', hi, rfl, A', F', kw, rfl⟩
   have hlen : σ2.env.words.length = σ1.env.words.length := by omega
   have g1 : h'.get o1 = some (L1.rs.map refV) := get_of ((kw o1 o1m o1x).trans ho3)
   rcases Nat.lt_or_ge i L1.rs.length with hil | hil
   ·have hi1 : i < σ1.env.words.length := by omega
    have hi2 : i < σ2.env.words.length := by omega
    have hb := List.getElem?_eq_getElem hi1
    have ha2 := List.getElem?_eq_getElem hi2
    have hmg := mix_get hlen hi2
    have hms := mix_set hlen hi2 hi1
    have hdl : i < p.arrays.length := by omega
    have hd := List.getElem?_eq_getElem hdl
    have hds := hp.ars _ (List.getElem_mem hdl)
    have lb := (kp1.ok.env.words i _ _ hb hd).1
    have la := (kp2.ok.env.words i _ _ ha2 hd).1
    generalize σ1.env.words[i] = bv at *
    generalize σ2.env.words[i] = av at *
    obtain ⟨id1, b1, b2⟩ := A3.ws i bv hb
    have b3 := List.mem_of_getElem? b1
    have id1m : id1 ∈ L1.own := L1.r_mem b3
    have id1x : id1 ≠ L.x := by have := A3.xr b3; rw [hx1] at this; exact this
    have hob1 : h'.objs id1 = some (.cells (natVs bv)) := (kw id1 id1m id1x).trans b2
    have b4 : (L1.rs.map refV)[i]? = some (.ref id1 0 bv.length 1) := by rw [List.getElem?_map, b1]; rfl
    obtain ⟨id, c1, c2⟩ := A'.ws i av hmg
    have c3 := List.mem_of_getElem? c1
    obtain ⟨o4, id', d1, d2, d3, d4, d5⟩ := A'.outer hmg
    have hidd : id' = id := by
     rw [List.getElem?_map, c1] at d3
     have := Option.some.inj d3
     simp only [refV, V.ref.injEq] at this
     exact this.1.symm
    subst hidd
    have hx4 : L4.x = L.x := F'.x
    have idm := L4.r_mem c3
    have idx : id' ≠ L.x := by have := A'.xr c3; rw [hx4] at this; exact this
    have ne1 : id' ≠ id1 := fun q => own4 id1 id1m id1x (q ▸ idm)
    have ne2 : id' ≠ o1 := fun q => own4 o1 o1m o1x (q ▸ idm)
    have ne4 : id' ≠ o4 := by
     have ho4 : L4.o = some o4 := by
      unfold Lr.ov at d1
      cases hq : L4.o with
      | none => rw [hq] at d1; cases d1
      | some q => rw [hq] at d1; cases d1; rfl
     exact A'.or ho4 c3
    have hab : av.length = bv.length := by omega
    have gx' := get_of A'.x
    rw [hx4] at gx'
    have lj : ((i : Nat) : Int) < ((L1.rs.length : Nat) : Int) := by omega
    have l4 : ((i : Nat) : Int) < ((L4.rs.length : Nat) : Int) := by omega
    simp -dsimp -implicitDefEqProofs only [↓STP, STQ, seval, eq_true lj]
    refine codeT_for (N := bv.length) (fun k => ⟨upd (upd (upd (upd ρ0 0 (.ptr L.x 0)) 11 (.ref o1 0 L1.rs.length 1)) 12 (I i)) 13 (I k), m0, 0, [], h'.set id' (.cells (natVs (half av bv k)))⟩) (fun _ => True)
     (by rw [half_zero, H.set_same c2]; simp -dsimp -implicitDefEqProofs only [↓STP, STQ, seval] <;> rfl) trivial (fun k hk _ => ?_) (fun _ => ?_) mono
    ·have hka : k < av.length := by omega
     have e1 : (h'.set id' (.cells (natVs (half av bv k)))).get o1 = some (L1.rs.map refV) := by rw [get_set_ne ne2.symm]; exact g1
     have e2 : (h'.set id' (.cells (natVs (half av bv k)))).get id1 = some (natVs bv) := by rw [get_set_ne ne1.symm]; exact get_of hob1
     have e3 : (h'.set id' (.cells (natVs (half av bv k)))).get id' = some (natVs (half av bv k)) := get_set
     have e4 : (h'.set id' (.cells (natVs (half av bv k)))).get o4 = some (L4.rs.map refV) := by rw [get_set_ne ne4.symm]; exact d2
     have e5 := (get_set_ne (h := h') (o := .cells (natVs (half av bv k))) idx.symm).trans gx'
     have hl0 : ((k : Nat) : Int) < ((av.length : Nat) : Int) := by omega
     have hl1 : ((k : Nat) : Int) < ((bv.length : Nat) : Int) := by omega
     have t1 := nat_vs_get (ws := half av bv k) (n := k) (by rw [half_len hab (by omega)]; exact hka)
     rw [half_get hab hka] at t1
     have t2 := nat_vs_get (ws := bv) (n := k) (by omega)
     have wI := wiM (show k < 9223372036854775807 by omega)
     have hmx : (if ((bv.getD k 0 : Nat) : Int) > ((av.getD k 0 : Nat) : Int) then ((bv.getD k 0 : Nat) : Int) else ((av.getD k 0 : Nat) : Int)) = ((max (av.getD k 0) (bv.getD k 0) : Nat) : Int) := by split <;> omega
     have stw := fun ρ m n u => storeF (ρ := ρ) (m := m) (n := n) (u := u) (j := k) (v := I ((max (av.getD k 0) (bv.getD k 0) : Nat) : Int)) e3 (by rw [natVs_len, half_len hab (by omega)]; exact hka) rfl rfl
     rw [set_set', nat_vs_set, half_set hab hka] at stw
     simp -dsimp -implicitDefEqProofs only [↓STP, STQ, seval, eq_true hl0, eq_true hl1, eq_true lj, eq_true l4, e1, e2, e3, e4, e5, Lr.cs, b4, d1, d3, t1, t2, maxV_two, hmx, stw, wI, Nat.mul_one]
    ·have e1 : (h'.set id' (.cells (natVs (half av bv bv.length)))).get o1 = some (L1.rs.map refV) := by rw [get_set_ne ne2.symm]; exact g1
     simp -dsimp -implicitDefEqProofs only [↓STP, STQ, seval, eq_true lj, e1, b4, Int.lt_irrefl, Nat.mul_one]
     have hfin : half av bv bv.length = List.zipWith max av bv := by rw [← hab, half_all hab]
     rw [hfin]
     obtain ⟨A9, F9⟩ := A'.setWord (ws' := List.zipWith max av bv) hmg c1 (by rw [List.length_zipWith]; omega)
     have A9' : Rt p L4 { σ2 with ifs := σ.ifs, env := { vars := bothV σ.env.vars σ1.env.vars σ2.env.vars, loops := σ2.env.loops, words := (mixW σ2.env.words σ1.env.words i).set i (List.zipWith max av bv) } } (h'.set id' (.cells (natVs (List.zipWith max av bv)))) := A9
     rw [hms] at A9'
     have w1 := wiM (show i < 9223372036854775807 by omega)
     simp -dsimp -implicitDefEqProofs only [↓STP, STQ, seval, w1]
     exact ⟨L1.rs.length - (i + 1), by omega, i + 1, h'.set id' (.cells (natVs (List.zipWith max av bv))), hil, rfl, A9', F'.trans F9, fun id hid hne => by
      rw [set_objs, if_neg (show ¬ id = id' from fun q => own4 id hid hne (by rw [q]; exact idm))]; exact kw id hid hne, rfl⟩
   ·have hie : i = σ2.env.words.length := by omega
    have hii : i = L1.rs.length := by omega
    rw [hie, mix_all hlen] at A'
    have hfin := fin _ A' F'
    subst hii
    simp -dsimp -implicitDefEqProofs only [↓STP, STQ, seval, Int.lt_irrefl]
    exact hfin
end
end YtihmoaibgmhjeaaDoor
end Go.Ab
set_option linter.unusedVariables false
set_option linter.unusedSimpArgs false
namespace Go.Ab
theorem stmtT_nz' {p : Prg} (x : Stm) (σ : TS) : Nz (stmtT p x σ) := by
 induction x using Stm.ind generalizing σ with
 | h k s e a b iha ihb =>
  have hs : ∀ l : List Stm, (∀ x ∈ l, ∀ σ, Nz (stmtT p x σ)) → ∀ σ, Nz (stmtsT p l σ) := by
   intro l
   induction l with
   | nil => intro _ σ; rw [stmtsT]; exact .ok
   | cons x xs ih => intro h σ; rw [stmtsT]; exact .and (h x (by simp) σ) fun τ => ih (fun y hy => h y (by simp [hy])) τ
  rw [stmtT]
  exact .and stepT_nz fun σ1 => .and (exprsT_nz_of fun y _ => exprT_nz y) fun r => stmt1_nz (hs a iha) (hs b ihb)
theorem findL_set {s t : ByteArray} {l : List (ByteArray × Kn)} {k : Kn} : findL t (l.filter (fun r => decide (r.1 ≠ s)) ++ [(s, k)]) = if t = s then some k else findL t l := by
 have h : ∀ m : List (ByteArray × Kn), findL t (m ++ [(s, k)]) = match findL t m with | some v => some v | none => if s = t then some k else none := by
  intro m
  induction m with
  | nil => simp only [List.nil_append, findL]
  | cons a m ih =>
   obtain ⟨a, v⟩ := a
   simp only [List.cons_append, findL]
   by_cases c : a = t
   ·rw [if_pos c, if_pos c]
   ·rw [if_neg c, if_neg c]; exact ih
 rw [h, findL_filter]
 by_cases c : t = s
 ·rw [if_pos c, if_pos c]; simp [c]
 ·rw [if_neg c, if_neg c]
  cases findL t l with
  | some v => rfl
  | none => simp only; rw [if_neg (fun e => c e.symm)]
namespace YtihmoaibgmhjeaaDoor
section
variable {K : Out → H → Prop} {p : Prg}
def SqS (p : Prg) (x : Stm) (lv : Nat) : Prop := ∀ (L : Lr) (σ : TS) (h : H) (K : Out → H → Prop), Rt p L σ h → TOk p σ → σ.ifs ≤ lv → EndR p L h K (stmtT p x σ) →
 R 50 [.ptr L.x 0, x.v] h K
theorem stmtR {k : Int} {s : ByteArray} {e : List Exp} {a b : List Stm} {lv : Nat} (okp : POk p) (hp : PV p) (hla : p.arrays.length ≤ 1000) (hv : VS (.mk k s e a b) lv) (ok : SOk (.mk k s e a b)) (ha : SqSs p a (lv + 1)) (hb : SqSs p b (lv + 1)) (ga : GoodT p (stmtsT p a)) (gb : GoodT p (stmtsT p b)) : SqS p (.mk k s e a b) lv := by
 intro L σ h K A okσ hifs hK
 obtain ⟨v1, v2, v3, v4, v5, v6, v7, v8, v9, v10, v11⟩ := VS_mk.1 hv
 obtain ⟨_, _, _, _, _, oke, _, _⟩ := SOk_mk ok
 rw [stmtT] at hK
 refine run50 (Nat.le_of_ble_eq_true rfl) ?_
 simp -dsimp -implicitDefEqProofs only [↓STP, STQ, seval, ir50, Stm.v_mk]
 refine stepR A okσ.steps ?_
 cases hst : stepT σ with
 | error er =>
  have hne := stepT_nz er hst
  rw [hst] at hK
  rw [Ans_error]
  simp -dsimp -implicitDefEqProofs only [↓STP, STQ, seval, eq_false hne]
  exact hK hne _ _ (Fw.refl _ _)
 | ok σ1 =>
 rw [hst, andT_ok] at hK
 rw [Ans_ok]
 obtain ⟨rfl, kp1⟩ := stepT_ok okσ hst
 intro h2 A2 F2
 simp -dsimp -implicitDefEqProofs only [↓STP, STQ, seval]
 refine allR_of hp (by rw [v4]; split <;> decide) (fun x hx => exprR okp hp x _ (v9 x hx) (oke x hx)) v9 (fun x _ _ => exprT_nz x) A2 kp1.ok ?_
 cases hex : exprsT p ({ σ with steps := σ.steps + 1 } : TS).env e with
 | error er =>
  rw [hex] at hK
  intro hne h3 F3
  simp -dsimp -implicitDefEqProofs only [↓STP, STQ, seval, eq_false hne]
  exact hK hne _ _ (F2.trans F3)
 | ok lm =>
 obtain ⟨l, m⟩ := lm
 rw [hex, andT_ok] at hK
 obtain ⟨hkl, hm, hll⟩ := exprsT_ok hp kp1.ok.env v9 l m hex
 intro h3 A3 F3
 have F23 := F2.trans F3
 have ok3 : TOk p { ({ σ with steps := σ.steps + 1 } : TS) with most := max σ.most m } := ⟨okσ.env, kp1.ok.steps, by have := okσ.most; show max σ.most m ≤ 60; omega⟩
 have hK : EndR p L h K (stmt1 p k s l (stmtsT p a) (stmtsT p b) { ({ σ with steps := σ.steps + 1 } : TS) with most := max σ.most m }) := hK
 have hK : EndR p L h3 K (stmt1 p k s l (stmtsT p a) (stmtsT p b) { ({ σ with steps := σ.steps + 1 } : TS) with most := max σ.most m }) := by
  cases hq : stmt1 p k s l (stmtsT p a) (stmtsT p b) { ({ σ with steps := σ.steps + 1 } : TS) with most := max σ.most m } with
  | ok τ => rw [hq] at hK; exact fun L' h' A' F' => hK _ _ A' (F23.trans F')
  | error er => rw [hq] at hK; exact fun hne L' h' F' => hK hne _ _ (F23.trans F')
 have vl3 : L.es.length ≤ σ.steps := A.vl
 have e3 : ({ ({ σ with steps := σ.steps + 1 } : TS) with most := max ({ σ with steps := σ.steps + 1 } : TS).most (l, m).2 } : TS) = { ({ σ with steps := σ.steps + 1 } : TS) with most := max σ.most m } := rfl
 rw [e3] at A3
 have st3 : σ.steps + 1 = ({ ({ σ with steps := σ.steps + 1 } : TS) with most := max σ.most m } : TS).steps := rfl
 have if3 : ({ ({ σ with steps := σ.steps + 1 } : TS) with most := max σ.most m } : TS).ifs = σ.ifs := rfl
 clear hst hex A2
 generalize ({ ({ σ with steps := σ.steps + 1 } : TS) with most := max σ.most m } : TS) = τ at *
 have okn := fun i => nthK_ok hkl i
 have gx := get_of A3.x
 have kk : k = 1 ∨ k = 2 ∨ k = 3 ∨ k = 4 ∨ k = 5 := by omega
 have h0 : 0 < l.length := by rw [hll, v4]; split <;> decide
 have g0 := nthK_get (l := l) (i := 0) h0
 have hv0 : V.agg [.vec (p.ins.map InD.v) .any, .vec (p.arrays.map ArD.v) .any, .vec (p.body.map Stm.v) .any] = p.v := rfl
 have m2 : p.arrays.length ≤ 9223372036854775807 := by omega
 unfold stmt1 at hK
 rcases kk with rfl | rfl | rfl | rfl | rfl
 ·rw [if_pos rfl] at hK
  unfold setT at hK
  simp -dsimp -implicitDefEqProofs only [↓STP, STQ, seval]
  refine takenR okp A3 ok3.steps ?_
  cases ht : takenT p τ.env s with
  | true =>
   rw [ht, if_pos rfl] at hK
   simp -dsimp -implicitDefEqProofs only [↓STP, STQ, seval]
   exact hK (by decide) _ _ (Fw.refl _ _)
  | false =>
   rw [ht, if_neg (by decide)] at hK
   have m4 : L.es.length ≤ 1000000 := by have := ok3.steps; omega
   have hfl : (L.es.filter fun r => decide (r.1 ≠ s)).length ≤ L.es.length := List.length_filter_le _ _
   simp -dsimp -implicitDefEqProofs only [↓STP, STQ, seval, gx, Lr.cs, g0, Kn.v_clen, Kn.v_mkEl]
   refine withoutR m4 ?_
   simp -dsimp -implicitDefEqProofs only [↓STP, STQ, seval, gx, Lr.cs, g0, Kn.v_clen, Kn.v_mkEl, eq_self]
   refine unknownR ?_
   simp -dsimp -implicitDefEqProofs only [↓STP, STQ, seval, kn_cells]
   rw [app1_own (sz := 5) (by simp) nm_cells rfl (by decide) (by decide) (by rw [List.length_map]; omega)]
   simp -dsimp -implicitDefEqProofs only [↓STP, STQ, seval, gx, Lr.cs, storeV, mkEl, V.cells]
   obtain ⟨A4, F4⟩ := A3.write (L' := { L with es := (L.es.filter fun r => decide (r.1 ≠ s)) ++ [(s, ⟨(nthK l 0).kind, (nthK l 0).w, false, 0⟩)], vc := .any }) (σ' := { τ with env := { τ.env with vars := setV τ.env.vars s (some ((nthK l 0).kind, (nthK l 0).w)) } }) rfl rfl rfl rfl
    (fun t => by
     show findL t (_ ++ _) = (setV τ.env.vars s (some ((nthK l 0).kind, (nthK l 0).w)) t).map _
     rw [findL_set, A3.es]; unfold setV
     by_cases c : t = s
     ·rw [if_pos c, if_pos c]; rfl
     ·rw [if_neg c, if_neg c]) (by simp only [List.length_append, List.length_cons, List.length_nil]; omega) A3.ll (.inl rfl) A3.cl A3.cw
   have hcs : Lr.cs p { L with es := (L.es.filter fun r => decide (r.1 ≠ s)) ++ [(s, ⟨(nthK l 0).kind, (nthK l 0).w, false, 0⟩)], vc := .any } { τ with env := { τ.env with vars := setV τ.env.vars s (some ((nthK l 0).kind, (nthK l 0).w)) } } =
     [.vec (p.ins.map InD.v) .any, .vec (p.arrays.map ArD.v) .any, .vec (p.body.map Stm.v) .any, .vec ((L.es.filter fun r => decide (r.1 ≠ s)).map nmV ++ [nmV (s, ⟨(nthK l 0).kind, (nthK l 0).w, false, 0⟩)]) .any, .vec ((lps τ.env).map nmV) L.lc, L.ov, I τ.steps, I τ.most, I τ.ifs] := by
    unfold Lr.cs; rw [List.map_append]; rfl
   rw [hcs] at A4 F4
   exact hK _ _ A4 F4
 ·rw [if_neg (by decide), if_pos rfl] at hK
  have h1 : 1 < l.length := by rw [hll, v4, if_pos (.inl rfl)]; decide
  have g1 := nthK_get (l := l) (i := 1) h1
  unfold storeT at hK
  simp -dsimp -implicitDefEqProofs only [↓STP, STQ, seval, gx, Lr.cs]
  rw [hv0]
  refine arrayR m2 ?_
  have e2 := @ix_ars p s
  cases c2 : arOf p s with
  | none =>
   rw [c2] at e2 hK
   simp only at e2 hK
   rw [e2]
   simp -dsimp -implicitDefEqProofs only [↓STP, STQ, seval]
   exact hK (by decide) _ _ (Fw.refl _ _)
  | some i =>
   rw [c2] at e2 hK
   simp only at e2 hK
   rw [e2]
   obtain ⟨d, hd, hn, hg⟩ := arOf_some c2
   rw [hg] at hK
   have hds := hp.ars d (List.mem_of_getElem? hd)
   have hdv : (p.arrays.map ArD.v)[i]? = some d.v := by rw [List.getElem?_map, hd]; rfl
   have hwl : i < τ.env.words.length := by
    rw [ok3.env.wlen]
    rcases Nat.lt_or_ge i p.arrays.length with h' | h'
    ·exact h'
    ·rw [List.getElem?_eq_none h'] at hd; cases hd
   have hws := List.getElem?_eq_getElem hwl
   generalize τ.env.words[i] = ws at hws
   have hlen := (ok3.env.words i ws d hws hd).1
   have hneg : ¬ (i : Int) < 0 := by omega
   simp -dsimp -implicitDefEqProofs only [↓STP, STQ, seval, eq_false hneg, gx, Lr.cs, g0, Kn.v_clen, Kn.v_mkEl, hdv, arV_cells]
   refine placeR (by omega) (by omega) (okn 0).lt ?_
   cases hpl : placeT (nthK l 0) d.size with
   | error er =>
    rw [hpl] at hK
    have hne : er ≠ 0 := placeT_nz er hpl
    rw [Ans_error]
    simp -dsimp -implicitDefEqProofs only [↓STP, STQ, seval, eq_false hne]
    exact hK hne _ _ (Fw.refl _ _)
   | ok n =>
    rw [hpl, andT_ok] at hK
    rw [Ans_ok]
    have hnl : n < ws.length := by
     unfold placeT at hpl
     split at hpl
     ·cases hpl
     ·split at hpl
      ·cases hpl
      ·cases hpl; omega
    by_cases c : (nthK l 1).kind = 1
    rotate_left
    ·rw [if_pos c] at hK
     simp -dsimp -implicitDefEqProofs only [↓STP, STQ, seval, g1, Kn.v_clen, kn_cells, eq_false c]
     exact hK (by decide) _ _ (Fw.refl _ _)
    rw [if_neg (by simp [c])] at hK
    obtain ⟨id, q1, q2⟩ := A3.ws i ws hws
    obtain ⟨o, id', d1, d2, d3, d4, d5⟩ := A3.outer hws
    have hidd : id' = id := by
     rw [List.getElem?_map, q1] at d3
     have := Option.some.inj d3
     simp only [refV, V.ref.injEq] at this
     exact this.1.symm
    subst hidd
    have hnI : ((n : Nat) : Int) < ((ws.length : Nat) : Int) := by omega
    have l4 : ((i : Nat) : Int) < ((L.rs.length : Nat) : Int) := by omega
    have stw := fun ρ m n' u => storeF (ρ := ρ) (m := m) (n := n') (u := u) (j := n) (v := I (((nthK l 1).w : Nat) : Int)) d5 (by rw [natVs_len]; exact hnl) rfl rfl
    rw [nat_vs_set] at stw
    simp -dsimp -implicitDefEqProofs only [↓STP, STQ, seval, g1, Kn.v_clen, kn_cells, eq_true c, gx, Lr.cs, d1, d2, d3, eq_true l4, eq_true hnI, Nat.mul_one, stw]
    obtain ⟨A4, F4⟩ := A3.setWord (ws' := ws.set n (nthK l 1).w) hws q1 (by rw [List.length_set])
    have hgw : τ.env.words.getD i [] = ws := by rw [List.getD_eq_getElem?_getD, hws]; rfl
    have A4' : Rt p L { τ with env := { τ.env with words := setW τ.env.words i n (nthK l 1).w } } (h3.set id' (.cells (natVs (ws.set n (nthK l 1).w)))) := by
     unfold setW; rw [hgw]; exact A4
    exact hK _ _ A4' F4
 ·rw [if_neg (by decide), if_neg (by decide), if_pos rfl] at hK
  unfold ifT at hK
  simp -dsimp -implicitDefEqProofs only [↓STP, STQ, seval, g0, Kn.v_clen, Kn.v_mkEl]
  rw [← Stm.v_mk]
  refine branchR (e := e) (k := 3) hp ha hb ga gb A3 ok3 (by omega) (by omega) hla ?_
  cases hq : (if (nthK l 0).kind ≠ 2 then (.error 5 : TR TS) else andT (stmtsT p a { τ with ifs := τ.ifs + 1 }) fun σ1 => andT (stmtsT p b { σ1 with env := τ.env }) fun σ2 =>
   .ok { σ2 with ifs := τ.ifs, env := { τ.env with vars := bothV τ.env.vars σ1.env.vars σ2.env.vars, words := maxW σ2.env.words σ1.env.words } }) with
  | ok τ' =>
   rw [hq] at hK
   intro L' h' A' F'
   simp -dsimp -implicitDefEqProofs only [↓STP, STQ, seval]
   exact hK _ _ A' F'
  | error er =>
   rw [hq] at hK
   intro hne L' h' F'
   simp -dsimp -implicitDefEqProofs only [↓STP, STQ, seval]
   exact hK hne _ _ F'
 ·rw [if_neg (by decide), if_neg (by decide), if_neg (by decide), if_pos rfl] at hK
  have h1 : 1 < l.length := by rw [hll, v4, if_pos (.inr rfl)]; decide
  have g1 := nthK_get (l := l) (i := 1) h1
  simp -dsimp -implicitDefEqProofs only [↓STP, STQ, seval, g0, g1, Kn.v_clen, Kn.v_mkEl]
  rw [← Stm.v_mk]
  refine loopR (k := 4) (e := e) (b := b) okp hp (lv := lv + 1) ha ga A3 ok3 (by omega) hkl ?_
  cases hq : forT p s l (stmtsT p a) τ with
  | ok τ' =>
   rw [hq] at hK
   intro L' h' A' F'
   simp -dsimp -implicitDefEqProofs only [↓STP, STQ, seval]
   exact hK _ _ A' F'
  | error er =>
   rw [hq] at hK
   intro hne L' h' F'
   simp -dsimp -implicitDefEqProofs only [↓STP, STQ, seval]
   exact hK hne _ _ F'
 ·rw [if_neg (by decide), if_neg (by decide), if_neg (by decide), if_neg (by decide)] at hK
  by_cases c : 0 < τ.ifs
  ·have c' : (0 : Int) < (τ.ifs : Int) := by omega
   rw [if_pos c] at hK
   simp -dsimp -implicitDefEqProofs only [↓STP, STQ, seval, gx, Lr.cs, eq_true c']
   exact hK (by decide) _ _ (Fw.refl _ _)
  ·have c' : ¬ (0 : Int) < (τ.ifs : Int) := by omega
   rw [if_neg c] at hK
   simp -dsimp -implicitDefEqProofs only [↓STP, STQ, seval, gx, Lr.cs, eq_false c']
   exact hK _ _ A3 (Fw.refl _ _)
theorem stmtsR_of {l : List Stm} {lv : Nat} (hp : PV p) (hlen : l.length ≤ 9223372036854775807) (ih : ∀ x ∈ l, SqS p x lv) (hv : VSs l lv) : SqSs p l lv := by
 intro L σ h K A ok hifs hK
 have good : ∀ j, GoodT p (stmtsT p (l.take j)) := fun j => stmtsT_ok hp (VSs_all.2 fun x hx => VSs_all.1 hv x (List.mem_of_mem_take hx))
 refine run39 (Nat.le_of_ble_eq_true rfl) ?_
 simp -dsimp -implicitDefEqProofs only [↓STP, STQ, seval, ir39, List.length_map]
 refine codeT_loop (fun k s => ∃ j τ L' h', j ≤ l.length ∧ k = l.length - j ∧ stmtsT p (l.take j) σ = .ok τ ∧ Rt p L' τ h' ∧ Fw L L' h h' ∧
  s = ⟨upd (upd (upd ρ0 0 (.ptr L.x 0)) 1 (.vec (l.map Stm.v) .any)) 5 (I j), m0, 0, [], h'⟩) (i := l.length) ⟨0, σ, L, h, Nat.zero_le _, rfl, by rw [List.take_zero, stmtsT], A, Fw.refl _ _, by simp -dsimp -implicitDefEqProofs only [↓STP, STQ, seval] <;> rfl⟩ ?_ mono
 rintro k s ⟨j, τ, L', h', hj, rfl, hr, A', F', rfl⟩
 have kp := good j _ _ ok hr
 rcases Nat.lt_or_ge j l.length with hi | hi
 ·have hget := get_map (f := Stm.v) hi
  have hx := ih _ (List.getElem_mem hi)
  have w1 := wiM (show j < 9223372036854775807 by omega)
  have htk := stmtsT_take hi hr
  have hnz := @stmtT_nz' p l[j] τ
  generalize l[j] = x at *
  simp -dsimp -implicitDefEqProofs only [↓STP, STQ, seval, List.length_map, Int.ofNat_lt, hi, hget, storeSt, Stm.v_outs, Stm.v_clen, Stm.v_tk, Stm.v_ag, Stm.v_out, eq_self]
  rw [← F'.x]
  refine hx _ _ _ _ A' kp.ok (by rw [kp.ifs]; exact hifs) ?_
  cases hs1 : stmtT p x τ with
  | error er =>
   rw [hs1] at htk
   have hfa := stmtsT_fail htk
   rw [hfa] at hK
   intro hne L4 h4 F4
   simp -dsimp -implicitDefEqProofs only [↓STP, STQ, seval, eq_false hne]
   exact hK hne _ _ (F'.trans F4)
  | ok τ2 =>
   rw [hs1] at htk
   intro L4 h4 A4 F4
   simp -dsimp -implicitDefEqProofs only [↓STP, STQ, seval, w1]
   exact ⟨l.length - (j + 1), by omega, j + 1, τ2, L4, h4, hi, rfl, htk, A4, F'.trans F4, by rw [F'.x]⟩
 ·have hj' : j = l.length := by omega
  subst hj'
  rw [List.take_length] at hr
  rw [hr] at hK
  simp -dsimp -implicitDefEqProofs only [↓STP, STQ, seval, List.length_map, Int.lt_irrefl]
  exact hK _ _ A' F'
theorem stmtRR (okp : POk p) (hp : PV p) (hla : p.arrays.length ≤ 1000) (x : Stm) : ∀ lv, VS x lv → SOk x → SqS p x lv := by
 induction x using Stm.ind with
 | h k s e a b iha ihb =>
  intro lv hv ok
  obtain ⟨v1, v2, v3, v4, v5, v6, v7, v8, v9, v10, v11⟩ := VS_mk.1 hv
  obtain ⟨_, _, _, la, lb, oke, oka, okb⟩ := SOk_mk ok
  have hm := maxLen_eq
  exact stmtR okp hp hla hv ok (stmtsR_of hp (by omega) (fun x hx => iha x hx _ (VSs_all.1 v10 x hx) (oka x hx)) v10) (stmtsR_of hp (by omega) (fun x hx => ihb x hx _ (VSs_all.1 v11 x hx) (okb x hx)) v11) (stmtsT_ok hp v10) (stmtsT_ok hp v11)
theorem stmtsR (okp : POk p) (hp : PV p) (hla : p.arrays.length ≤ 1000) {l : List Stm} {lv : Nat} (hl : l.length ≤ maxLen) (hv : VSs l lv) (ok : ∀ x ∈ l, SOk x) : SqSs p l lv :=
 stmtsR_of hp (by have := maxLen_eq; omega) (fun x hx => stmtRR okp hp hla x _ (VSs_all.1 hv x hx) (ok x hx)) hv
end
end YtihmoaibgmhjeaaDoor
end Go.Ab
set_option linter.unusedVariables false
set_option linter.unusedSimpArgs false
namespace Go.Ab
def strs (l : List ByteArray) : List V := l.map V.str
theorem strs_cells {l : List ByteArray} : ∀ e ∈ strs l, e.cells.length = 1 := by
 intro e he
 obtain ⟨r, _, rfl⟩ := List.mem_map.1 he
 rfl
theorem strs_get {l : List ByteArray} {i : Nat} (h : i < l.length) : (strs l)[i]? = some (.str l[i]) := by
 unfold strs; rw [List.getElem?_map, List.getElem?_eq_getElem h]; rfl
theorem strs_len {l : List ByteArray} : (strs l).length = l.length := by simp [strs]
theorem nodup_take {l : List ByteArray} {i : Nat} (hi : i < l.length) (h : (l.take i).Nodup) (hn : ∀ a ∈ l.take i, a ≠ l[i]) : (l.take (i + 1)).Nodup := by
 rw [List.take_add_one, List.getElem?_eq_getElem hi, Option.toList_some, List.nodup_append]
 exact ⟨h, by simp, fun a ha b hb => by rw [List.mem_singleton] at hb; subst hb; exact hn a ha⟩
namespace YtihmoaibgmhjeaaDoor
section
variable {K : Out → H → Prop} {p : Prg} {h : H}
theorem unlikeR (li : p.ins.length ≤ 1000) (la : p.arrays.length ≤ 1000) (hK : K (.ret (.bool (unlikeT p))) h) : R 38 [p.v] h K := by
 refine run38 (Nat.le_of_ble_eq_true rfl) ?_
 have hv0 : p.v = V.agg [.vec (p.ins.map InD.v) .any, .vec (p.arrays.map ArD.v) .any, .vec (p.body.map Stm.v) .any] := rfl
 simp -dsimp -implicitDefEqProofs only [↓STP, STQ, seval, ir38, hv0]
 refine codeT_for (N := p.ins.length) (fun j => ⟨upd (upd (upd ρ0 1 (.lptr 0 3 0)) 3 (.vec (strs ((p.ins.map InD.name).take j)) (.own 1))) 4 (I j), upd m0 0 (some [.vec (p.ins.map InD.v) .any, .vec (p.arrays.map ArD.v) .any, .vec (p.body.map Stm.v) .any]), 2, [], h⟩) (fun j => True) (by simp -dsimp -implicitDefEqProofs only [↓STP, STQ, seval] <;> rfl) trivial (fun j hj pj => ?_) (fun pj => ?_) mono
 ·have g : (p.ins.map InD.v)[j]? = some (InD.v p.ins[j]) := by rw [List.getElem?_map, List.getElem?_eq_getElem hj]; rfl
  have lj : (j : Int) < (p.ins.length : Int) := by omega
  have e : (p.ins.map InD.name).take (j + 1) = (p.ins.map InD.name).take j ++ [p.ins[j].name] := by
   rw [List.take_add_one, List.getElem?_map, List.getElem?_eq_getElem hj]; rfl
  simp -dsimp -implicitDefEqProofs only [↓STP, STQ, seval, List.length_map, eq_true lj, g, inV_cells]
  rw [app1_own (sz := 1) (by simp) strs_cells rfl (by decide) (by decide) (by rw [strs_len, List.length_take]; omega)]
  simp -dsimp -implicitDefEqProofs only [↓STP, STQ, seval, wi (show j < 9000000000000000000 by omega)]
  rw [e]; unfold strs; rw [List.map_append]; rfl
 simp -dsimp -implicitDefEqProofs only [↓STP, STQ, seval, List.length_map, Int.lt_irrefl]
 refine codeT_for (N := p.arrays.length) (fun j => ⟨upd (upd (upd ρ0 1 (.lptr 0 3 0)) 3 (.vec (strs (p.ins.map InD.name ++ (p.arrays.map ArD.name).take j)) (.own 1))) 5 (I j), upd m0 0 (some [.vec (p.ins.map InD.v) .any, .vec (p.arrays.map ArD.v) .any, .vec (p.body.map Stm.v) .any]), 2, [], h⟩) (fun j => True)
  (by rw [List.take_zero, List.append_nil, List.take_of_length_le (by rw [List.length_map]; omega)]; simp -dsimp -implicitDefEqProofs only [↓STP, STQ, seval] <;> rfl) trivial (fun j hj pj => ?_) (fun pj => ?_) mono
 ·have g : (p.arrays.map ArD.v)[j]? = some (ArD.v p.arrays[j]) := by rw [List.getElem?_map, List.getElem?_eq_getElem hj]; rfl
  have lj : (j : Int) < (p.arrays.length : Int) := by omega
  have e : (p.arrays.map ArD.name).take (j + 1) = (p.arrays.map ArD.name).take j ++ [p.arrays[j].name] := by
   rw [List.take_add_one, List.getElem?_map, List.getElem?_eq_getElem hj]; rfl
  simp -dsimp -implicitDefEqProofs only [↓STP, STQ, seval, List.length_map, eq_true lj, g, arV_cells]
  rw [app1_own (sz := 1) (by simp) strs_cells rfl (by decide) (by decide) (by rw [strs_len, List.length_append, List.length_take, List.length_map]; omega)]
  simp -dsimp -implicitDefEqProofs only [↓STP, STQ, seval, wi (show j < 9000000000000000000 by omega)]
  rw [e]; unfold strs; simp only [List.map_append, List.append_assoc]; rfl
 simp -dsimp -implicitDefEqProofs only [↓STP, STQ, seval, List.length_map, Int.lt_irrefl]
 have hall : p.ins.map InD.name ++ (p.arrays.map ArD.name).take p.arrays.length = p.ins.map InD.name ++ p.arrays.map ArD.name := by
  rw [List.take_of_length_le (by rw [List.length_map]; omega)]
 rw [hall]
 have hll : (p.ins.map InD.name ++ p.arrays.map ArD.name).length ≤ 2000 := by rw [List.length_append, List.length_map, List.length_map]; omega
 unfold unlikeT at hK
 generalize p.ins.map InD.name ++ p.arrays.map ArD.name = l at *
 refine codeT_for (N := l.length) (fun i => ⟨upd (upd ρ0 3 (.vec (strs l) (.own 0))) 6 (I i), m0, 1, [], h⟩) (fun i => (l.take i).Nodup) (by simp -dsimp -implicitDefEqProofs only [↓STP, STQ, seval] <;> rfl) (by simp) (fun i hi pi => ?_) (fun pi => ?_) mono
 ·have li : (i : Int) < (l.length : Int) := by omega
  simp -dsimp -implicitDefEqProofs only [↓STP, STQ, seval, strs_len, eq_true li]
  refine codeT_for (N := i) (fun k => ⟨upd (upd (upd ρ0 3 (.vec (strs l) (.own 0))) 6 (I i)) 7 (I k), m0, 1, [], h⟩) (fun k => ∀ a ∈ l.take k, a ≠ l[i]) (by simp -dsimp -implicitDefEqProofs only [↓STP, STQ, seval] <;> rfl) (by simp) (fun k hk pk => ?_) (fun pk => ?_) mono
  ·have lk : (k : Int) < (i : Int) := by omega
   have hkl : k < l.length := by omega
   have g1 := strs_get hi
   have g2 := strs_get hkl
   by_cases c : l[i] = l[k]
   ·simp -dsimp -implicitDefEqProofs only [↓STP, STQ, seval, eq_true lk, g1, g2, binS, beqS, eq_true c]
    rw [decide_eq_false (fun hn => by
     have := (List.getElem_inj hn).1 c
     omega)] at hK
    exact hK
   ·simp -dsimp -implicitDefEqProofs only [↓STP, STQ, seval, eq_true lk, g1, g2, binS, beqS, eq_false c, wi (show k < 9000000000000000000 by omega)]
    exact take_next pk (List.getElem?_eq_getElem hkl) (fun e => c e.symm)
  ·simp -dsimp -implicitDefEqProofs only [↓STP, STQ, seval, Int.lt_irrefl, wi (show i < 9000000000000000000 by omega)]
   exact nodup_take hi pi pk
 ·simp -dsimp -implicitDefEqProofs only [↓STP, STQ, seval, strs_len, Int.lt_irrefl]
  rw [List.take_length] at pi
  rw [decide_eq_true pi] at hK
  exact hK
end
end YtihmoaibgmhjeaaDoor
end Go.Ab
set_option linter.unusedVariables false
set_option linter.unusedSimpArgs false
namespace Go.Ab
theorem new_set {h : H} {o o' : O} : (h.new o).set h.next o' = h.new o' := by
 simp only [H.set, H.new]
 congr 1
 funext j
 simp only [upd]
 split <;> rfl
theorem app_n1 {st : S} {s s' : Nat} {n : Int} {c : Cap} (hs : s' ∉ st.u) : appV st s (.vec [] (.own s')) (.vec [I n] c) 1 8 false true = some (.ref st.h.next 0 1 1, st.withH (st.h.new (.cells [I n]))) := by
 simp [appV, lenV, flat, V.cells, hs, most]
theorem app_n2 {st : S} {s id k : Nat} {n : Int} {c : Cap} {cs : List V} (hg : st.h.get id = some cs) (hl : cs.length = k) (hk : k ≤ 4294967295) : appV st s (.ref id 0 k 1) (.vec [I n] c) 1 8 false true = some (.ref st.h.next 0 (k + 1) 1, st.withH (st.h.move id (.cells (cs ++ [I n])))) := by
 have h1 : k + 1 ≤ most := by unfold most; omega
 simp [appV, lenV, flat, V.cells, hg, hl, h1]
theorem app_f1 {st : S} {s a b : Nat} {c : Cap} : appV st s (.vec [] .full) (.vec [.ref a 0 b 1] c) 1 24 false true = some (.ref st.h.next 0 1 1, st.withH (st.h.new (.cells [.ref a 0 b 1]))) := by
 simp [appV, lenV, flat, V.cells, most]
def addH (h : H) (o : Option Nat) (rs : List (Nat × Nat)) : H := match o with
 | some id => h.move id (.cells (rs.map refV))
 | none => h.new (.cells (rs.map refV))
theorem Rt.addWord {p : Prg} {L : Lr} {σ : TS} {h : H} (A : Rt p L σ h) {id : Nat} {ws : List Nat} (hid : id ∉ L.own) (hob : h.objs id = some (.cells (natVs ws))) (hlt : id < h.next) :
  Rt p { L with o := some h.next, rs := L.rs ++ [(id, ws.length)] } { σ with env := { σ.env with words := σ.env.words ++ [ws] } }
   ((addH h L.o (L.rs ++ [(id, ws.length)])).set L.x (.cells (Lr.cs p { L with o := some h.next, rs := L.rs ++ [(id, ws.length)] } { σ with env := { σ.env with words := σ.env.words ++ [ws] } }))) := by
 have xlt := A.lt _ L.x_mem
 have idx : id ≠ L.x := fun e => hid (e ▸ L.x_mem)
 have hnx : (addH h L.o (L.rs ++ [(id, ws.length)])).next = h.next + 1 := by unfold addH; cases L.o <;> rfl
 have hobj : ∀ j, j < h.next → L.o ≠ some j → (addH h L.o (L.rs ++ [(id, ws.length)])).objs j = h.objs j := by
  intro j hj hne
  unfold addH
  cases ho : L.o with
  | none => simp only; rw [new_objs, if_neg (by omega)]
  | some o => simp only; rw [move_objs', if_neg (by omega), if_neg (fun e => hne (by rw [ho, e]))]
 have hnew : (addH h L.o (L.rs ++ [(id, ws.length)])).objs h.next = some (.cells ((L.rs ++ [(id, ws.length)]).map refV)) := by
  unfold addH
  cases L.o with
  | none => simp only; rw [new_objs, if_pos rfl]
  | some o => simp only; rw [move_objs', if_pos rfl]
 refine ⟨by rw [set_objs, if_pos rfl], ?_, A.es, by simp [A.len], fun i w hi => ?_, ?_, fun j hj => ?_, A.vl, A.ll, A.cv, A.cl, A.cw⟩
 ·show (_ : H).objs h.next = _
  rw [set_objs, if_neg (by omega)]; exact hnew
 ·have hi : (σ.env.words ++ [ws])[i]? = some w := hi
  rcases Nat.lt_or_ge i σ.env.words.length with hl | hl
  ·rw [List.getElem?_append_left hl] at hi
   obtain ⟨id', a, b⟩ := A.ws i w hi
   have hm := List.mem_of_getElem? a
   have hlt' := A.lt _ (L.r_mem hm)
   refine ⟨id', by show (L.rs ++ _)[i]? = _; rw [List.getElem?_append_left (by rw [A.len]; exact hl)]; exact a, ?_⟩
   rw [set_objs, if_neg (A.xr hm), hobj id' hlt' (fun e => A.or e hm rfl)]
   exact b
  ·rw [List.getElem?_append_right hl] at hi
   have h0 : i - σ.env.words.length = 0 := by
    rcases Nat.eq_zero_or_pos (i - σ.env.words.length) with h0 | h0
    ·exact h0
    ·rw [List.getElem?_eq_none (by simp; omega)] at hi; cases hi
   rw [h0] at hi
   cases hi
   refine ⟨id, by show (L.rs ++ _)[i]? = _; rw [List.getElem?_append_right (by rw [A.len]; exact hl), A.len, h0]; rfl, ?_⟩
   rw [set_objs, if_neg idx, hobj id hlt (fun e => hid (L.o_mem e))]
   exact hob
 ·have hd := A.nd
  have hl : ∀ j ∈ L.rs.map (·.1), j < h.next := fun j hj => by
   obtain ⟨r, hr, rfl⟩ := List.mem_map.1 hj
   exact A.lt _ (L.r_mem hr)
  have hn : id ∉ L.rs.map (·.1) := fun hj => by
   obtain ⟨r, hr, rfl⟩ := List.mem_map.1 hj
   exact hid (L.r_mem hr)
  simp only [Lr.own, List.nodup_cons, List.mem_append, not_or, List.nodup_append] at hd
  show (L.x :: ((some h.next).toList ++ (L.rs ++ [(id, ws.length)]).map (·.1))).Nodup
  simp only [Option.toList_some, List.cons_append, List.nil_append, List.map_append, List.map_cons, List.map_nil, List.nodup_cons, List.mem_cons, List.mem_append, List.not_mem_nil, or_false, not_or, List.nodup_append]
  refine ⟨⟨by omega, hd.1.2, idx.symm⟩, ⟨fun hj => by have := hl _ hj; omega, by omega⟩, hd.2.2.1, ⟨by simp, List.nodup_nil⟩, fun a ha b hb => ?_⟩
  subst hb
  exact fun e => hn (e ▸ ha)
 ·have hj : j ∈ L.x :: ((some h.next).toList ++ (L.rs ++ [(id, ws.length)]).map (·.1)) := hj
  rw [set_next, hnx]
  simp only [Option.toList_some, List.cons_append, List.nil_append, List.map_append, List.map_cons, List.map_nil, List.mem_cons, List.mem_append, List.not_mem_nil, or_false] at hj
  rcases hj with rfl | rfl | hj | rfl
  ·omega
  ·omega
  ·obtain ⟨r, hr, rfl⟩ := List.mem_map.1 hj
   have := A.lt _ (L.r_mem hr); omega
  ·omega
end Go.Ab
set_option linter.unusedVariables false
set_option linter.unusedSimpArgs false
namespace Go.Ab
def st0 (p : Prg) (m : Nat) : List V := [.vec (p.ins.map InD.v) .any, .vec (p.arrays.map ArD.v) .any, .vec (p.body.map Stm.v) .any, .vec [] .full, .vec [] .full, .vec [] .full, I 0, I m, I 0]
def Lj (x : Nat) (o : Option Nat) (rs : List (Nat × Nat)) : Lr := ⟨x, [], .full, .full, o, .full, rs⟩
def σj (p : Prg) (j : Nat) : TS := ⟨⟨fun _ => none, [], (p.arrays.take j).map fun d => List.replicate d.size.toNat 1⟩, 0, maxI p.ins, 0⟩
theorem Rt_zero {p : Prg} {h : H} : Rt p (Lj h.next none []) (σj p 0) (h.new (.cells (st0 p (maxI p.ins)))) := by
 refine ⟨by rw [new_objs]; exact if_pos rfl, rfl, fun s => rfl, rfl, fun i ws hi => (by cases hi), ?_, fun id hid => ?_, Nat.le_refl _, Nat.le_refl _, .inr rfl, .inr rfl, .inr rfl⟩
 ·show ([h.next] : List Nat).Nodup
  simp
 ·have hid : id ∈ ([h.next] : List Nat) := hid
  rw [List.mem_singleton] at hid
  rw [hid, new_next]; omega
namespace YtihmoaibgmhjeaaDoor
section
variable {K : Out → H → Prop} {p : Prg} {h : H}
theorem throughR (v : VT p) (li : p.ins.length ≤ 1000) (la : p.arrays.length ≤ 1000)
  (hK : Ans (checkT p) (fun σ => ∀ L' h', Rt p L' σ h' → K (.ret (.tuple [.ptr L'.x 0, I 0])) h') (fun e => e ≠ 0 → ∀ x h', K (.ret (.tuple [.ptr x 0, I e])) h')) : R 27 [p.v] h K := by
 refine run27 (Nat.le_of_ble_eq_true rfl) ?_
 have hv0 : p.v = V.agg [.vec (p.ins.map InD.v) .any, .vec (p.arrays.map ArD.v) .any, .vec (p.body.map Stm.v) .any] := rfl
 unfold checkT at hK
 simp -dsimp -implicitDefEqProofs only [↓STP, STQ, seval, ir27, hv0]
 rw [← hv0]
 refine unlikeR li la ?_
 cases hu : unlikeT p with
 | false =>
  rw [hu, if_neg (by decide)] at hK
  simp -dsimp -implicitDefEqProofs only [↓STP, STQ, seval]
  exact hK (by decide) _ _
 | true =>
 rw [hu, if_pos rfl] at hK
 simp -dsimp -implicitDefEqProofs only [↓STP, STQ, seval]
 refine codeT_for (N := p.ins.length) (fun j => ⟨upd (upd (upd ρ0 1 (.lptr 0 3 0)) 4 (.ptr h.next 0)) 5 (I j), upd m0 0 (some [.vec (p.ins.map InD.v) .any, .vec (p.arrays.map ArD.v) .any, .vec (p.body.map Stm.v) .any]), 1, [], h.new (.cells (st0 p (maxI (p.ins.take j))))⟩) (fun j => True) (by simp -dsimp -implicitDefEqProofs only [↓STP, STQ, seval] <;> rfl) trivial (fun j hj pj => ?_) (fun pj => ?_) mono
 ·have g : (p.ins.map InD.v)[j]? = some (InD.v p.ins[j]) := by rw [List.getElem?_map, List.getElem?_eq_getElem hj]; rfl
  have lj : (j : Int) < (p.ins.length : Int) := by omega
  have hvi := v.ins _ (List.getElem_mem hj)
  have e : maxI (p.ins.take (j + 1)) = max (maxI (p.ins.take j)) p.ins[j].width.toNat := by
   rw [List.take_add_one, List.getElem?_eq_getElem hj, Option.toList_some, maxI_append]
  have gx : (h.new (.cells (st0 p (maxI (p.ins.take j))))).get h.next = some (st0 p (maxI (p.ins.take j))) := get_of (by rw [new_objs, if_pos rfl])
  have w1' := hvi.w1
  have hmx : (if p.ins[j].width > ((maxI (p.ins.take j) : Nat) : Int) then p.ins[j].width else ((maxI (p.ins.take j) : Nat) : Int)) = ((max (maxI (p.ins.take j)) p.ins[j].width.toNat : Nat) : Int) := by split <;> omega
  rw [e]
  simp -dsimp -implicitDefEqProofs only [↓STP, STQ, seval, List.length_map, eq_true lj, g, inV_cells, st0, get_new, maxV_two, hmx, storeV, new_set, wi (show j < 9000000000000000000 by omega)]
  skip
 simp -dsimp -implicitDefEqProofs only [↓STP, STQ, seval, List.length_map, Int.lt_irrefl]
 rw [List.take_length]
 refine codeT_loop (fun k s => ∃ j o rs h', j ≤ p.arrays.length ∧ k = p.arrays.length - j ∧ Rt p (Lj h.next o rs) (σj p j) h' ∧
  s = ⟨upd (upd (upd ρ0 1 (.lptr 0 3 0)) 4 (.ptr h.next 0)) 6 (I j), upd m0 0 (some [.vec (p.ins.map InD.v) .any, .vec (p.arrays.map ArD.v) .any, .vec (p.body.map Stm.v) .any]), 1, [], h'⟩) (i := p.arrays.length) ⟨0, none, [], _, Nat.zero_le _, rfl, Rt_zero, by simp -dsimp -implicitDefEqProofs only [↓STP, STQ, seval] <;> rfl⟩ ?_ mono
 rintro k s ⟨j, o, rs, h', hj, rfl, A, rfl⟩
 have gx := get_of A.x
 have hxx : (Lj h.next o rs).x = h.next := rfl
 rw [hxx] at gx
 rcases Nat.lt_or_ge j p.arrays.length with hi | hi
 ·have g : (p.arrays.map ArD.v)[j]? = some (ArD.v p.arrays[j]) := by rw [List.getElem?_map, List.getElem?_eq_getElem hi]; rfl
  have lj : (j : Int) < (p.arrays.length : Int) := by omega
  have hvd := v.ars _ (List.getElem_mem hi)
  have hsz : p.arrays[j].size = ((p.arrays[j].size.toNat : Nat) : Int) := by have := hvd.s1; omega
  have hs1 := hvd.s1
  have hs2 := hvd.s2
  have hσ : σj p (j + 1) = { σj p j with env := { (σj p j).env with words := (σj p j).env.words ++ [List.replicate p.arrays[j].size.toNat 1] } } := by
   unfold σj
   simp only
   rw [List.take_add_one, List.getElem?_eq_getElem hi, Option.toList_some, List.map_append]; rfl
  generalize p.arrays[j] = d at *
  generalize d.size.toNat = N at *
  simp -dsimp -implicitDefEqProofs only [↓STP, STQ, seval, List.length_map, eq_true lj]
  refine codeT_loop (fun c s => ∃ k w n h'', k ≤ N ∧ c = N - k ∧ ((k = 0 ∧ w = .vec [] (.own 1) ∧ n = 2 ∧ h'' = h') ∨ (0 < k ∧ ∃ id, w = .ref id 0 k 1 ∧ n = 1 ∧ h''.objs id = some (.cells (natVs (List.replicate k 1))) ∧ h'.next ≤ id ∧ id < h''.next ∧ (∀ i, i < h'.next → h''.objs i = h'.objs i))) ∧
   s = ⟨upd (upd (upd (upd (upd ρ0 1 (.lptr 0 3 0)) 4 (.ptr h.next 0)) 6 (I j)) 7 w) 8 (I k), upd m0 0 (some [.vec (p.ins.map InD.v) .any, .vec (p.arrays.map ArD.v) .any, .vec (p.body.map Stm.v) .any]), n, [], h''⟩) (i := N) ⟨0, _, _, _, Nat.zero_le _, rfl, .inl ⟨rfl, rfl, rfl, rfl⟩, by simp -dsimp -implicitDefEqProofs only [↓STP, STQ, seval] <;> rfl⟩ ?_ mono
  rintro c s ⟨k, w, n, h'', hk, rfl, hw, rfl⟩
  rcases Nat.lt_or_ge k N with hkN | hkN
  ·have lk : (k : Int) < d.size := by omega
   have w1 := wi (show k < 9000000000000000000 by omega)
   rcases hw with ⟨rfl, rfl, rfl, rfl⟩ | ⟨h0, id, rfl, rfl, q1, q2, q3, q4⟩
   ·have lk0 : (0 : Int) < d.size := by omega
    simp -dsimp -implicitDefEqProofs only [↓STP, STQ, seval, List.length_map, eq_true lj, g, arV_cells, eq_true lk0]
    rw [app_n1 (by simp)]
    simp -dsimp -implicitDefEqProofs only [↓STP, STQ, seval, w1]
    refine ⟨N - 1, by omega, 1, .ref h''.next 0 1 1, 1, h''.new (.cells [I 1]), by omega, rfl, .inr ⟨by decide, h''.next, rfl, rfl, by rw [new_objs, if_pos rfl]; rfl, Nat.le_refl _, by rw [new_next]; omega, fun i hi => by rw [new_objs, if_neg (by omega)]⟩, rfl⟩
   ·simp -dsimp -implicitDefEqProofs only [↓STP, STQ, seval, List.length_map, eq_true lj, g, arV_cells, eq_true lk]
    rw [app_n2 (get_of q1) (by rw [natVs_len, List.length_replicate]) (by omega)]
    simp -dsimp -implicitDefEqProofs only [↓STP, STQ, seval, w1]
    refine ⟨N - (k + 1), by omega, k + 1, .ref h''.next 0 (k + 1) 1, 1, h''.move id (.cells (natVs (List.replicate k 1) ++ [I 1])), hkN, rfl, .inr ⟨by omega, h''.next, rfl, rfl, ?_, by omega, by rw [move_next']; omega, fun i hi => by rw [move_objs', if_neg (by omega), if_neg (by omega)]; exact q4 i hi⟩, rfl⟩
    rw [move_objs', if_pos rfl, List.replicate_succ']
    unfold natVs; rw [List.map_append]; rfl
  ·have hkN : k = N := by omega
   subst hkN
   have lk : ¬ (k : Int) < d.size := by omega
   rcases hw with ⟨rfl, _⟩ | ⟨h0, id, rfl, rfl, q1, q2, q3, q4⟩
   ·omega
   have lto : ∀ i ∈ (Lj h.next o rs).own, i < h'.next := A.lt
   have A1 : Rt p (Lj h.next o rs) (σj p j) h'' := A.frame (by omega) fun i hi => q4 i (lto i hi)
   have A2 := A1.addWord (id := id) (ws := List.replicate k 1) (fun hm => by have := lto id hm; omega) q1 q3
   rw [← hσ, List.length_replicate] at A2
   have w1 := wi (show j < 9000000000000000000 by omega)
   have gx1 := get_of A1.x
   rw [hxx] at gx1
   have xlt := lto h.next (Lr.x_mem _)
   have hrl : rs.length = j := by
    have h1 : rs.length = (σj p j).env.words.length := A.len
    rw [h1]; unfold σj
    simp only [List.length_map, List.length_take]; omega
   rcases o with _ | oid
   ·have hrs : rs = [] := A1.o
    subst hrs
    have hov : (Lj h.next none []).ov = .vec [] .full := rfl
    have gx2 := (get_new_ne (h := h'') (o := .cells [.ref id 0 k 1]) (show h.next ≠ h''.next by omega)).trans gx1
    simp -dsimp -implicitDefEqProofs only [↓STP, STQ, seval, List.length_map, eq_true lj, g, arV_cells, eq_false lk, gx1, Lr.cs, hov]
    rw [app_f1]
    simp -dsimp -implicitDefEqProofs only [↓STP, STQ, seval, gx2, Lr.cs, hov, storeV, w1]
    exact ⟨p.arrays.length - (j + 1), by omega, j + 1, some h''.next, [(id, k)], _, hi, rfl, A2, rfl⟩
   ·have hov : (Lj h.next (some oid) rs).ov = .ref oid 0 rs.length 1 := rfl
    have hob : h''.objs oid = some (.cells (rs.map refV)) := A1.o
    have oidx : oid ≠ h.next := A1.xo rfl
    have gx2 := (get_move_ne (h := h'') (o := .cells (rs.map refV ++ [.ref id 0 k 1])) (show h.next ≠ h''.next by omega) oidx.symm).trans gx1
    simp -dsimp -implicitDefEqProofs only [↓STP, STQ, seval, List.length_map, eq_true lj, g, arV_cells, eq_false lk, gx1, Lr.cs, hov]
    rw [app_o2 (get_of hob) (by rw [List.length_map]) (by omega)]
    simp -dsimp -implicitDefEqProofs only [↓STP, STQ, seval, gx2, Lr.cs, hov, storeV, w1]
    have hlen : (rs ++ [(id, k)]).length = rs.length + 1 := by simp
    have hcs : Lr.cs p { Lj h.next (some oid) rs with o := some h''.next, rs := (Lj h.next (some oid) rs).rs ++ [(id, k)] } (σj p (j + 1)) = [.vec (p.ins.map InD.v) .any, .vec (p.arrays.map ArD.v) .any, .vec (p.body.map Stm.v) .any, .vec [] .full, .vec [] .full, .ref h''.next 0 (rs.length + 1) 1, I (0 : Nat), I (maxI p.ins), I (0 : Nat)] := by
     show [V.vec (p.ins.map InD.v) .any, .vec (p.arrays.map ArD.v) .any, .vec (p.body.map Stm.v) .any, .vec [] .full, .vec [] .full, .ref h''.next 0 (rs ++ [(id, k)]).length 1, I (0 : Nat), I (maxI p.ins), I (0 : Nat)] = _
     rw [hlen]
    have had : addH h'' (Lj h.next (some oid) rs).o ((Lj h.next (some oid) rs).rs ++ [(id, k)]) = h''.move oid (.cells (rs.map refV ++ [.ref id 0 k 1])) := by
     show h''.move oid (.cells ((rs ++ [(id, k)]).map refV)) = _
     rw [List.map_append]; rfl
    rw [hcs, had] at A2
    exact ⟨p.arrays.length - (j + 1), by omega, j + 1, some h''.next, rs ++ [(id, k)], _, hi, rfl, A2, rfl⟩
 ·have hje : j = p.arrays.length := by omega
  subst hje
  have hi0 : σj p p.arrays.length = initT p := by unfold σj initT; rw [List.take_length]
  rw [hi0] at A
  simp -dsimp -implicitDefEqProofs only [↓STP, STQ, seval, List.length_map, Int.lt_irrefl]
  refine stmtsR v.ok (PV_of v hu) la v.ok.lb v.body v.ok.body (Lj h.next o rs) (initT p) h' _ A (TOk_init v.ins v.ars) (by show 0 ≤ 1; omega) ?_
  cases hr : stmtsT p p.body (initT p) with
  | ok σ =>
   rw [hr] at hK
   intro L' h5 A5 F5
   simp -dsimp -implicitDefEqProofs only [↓STP, STQ, seval]
   have hx5 : L'.x = h.next := F5.x
   have := hK L' h5 A5
   rw [hx5] at this
   exact this
  | error er =>
   rw [hr] at hK
   intro hne L' h5 F5
   simp -dsimp -implicitDefEqProofs only [↓STP, STQ, seval]
   exact hK hne _ _
end
end YtihmoaibgmhjeaaDoor
end Go.Ab
set_option linter.unusedVariables false
set_option linter.unusedSimpArgs false
namespace Go.Ab
namespace YtihmoaibgmhjeaaDoor
section
variable {K : Out → H → Prop} {p : Prg} {h : H}
theorem checkR (v : VT p) (li : p.ins.length ≤ 1000) (la : p.arrays.length ≤ 1000) (hK : ∀ h', K (.ret (I (errT (checkT p)))) h') : R 12 [p.v] h K := by
 refine run12 (Nat.le_of_ble_eq_true rfl) ?_
 have hv0 : p.v = V.agg [.vec (p.ins.map InD.v) .any, .vec (p.arrays.map ArD.v) .any, .vec (p.body.map Stm.v) .any] := rfl
 simp -dsimp -implicitDefEqProofs only [↓STP, STQ, seval, ir12, hv0]
 rw [← hv0]
 refine throughR v li la ?_
 cases hr : checkT p with
 | ok σ =>
  rw [hr] at hK
  intro L' h' A'
  simp -dsimp -implicitDefEqProofs only [↓STP, STQ, seval]
  exact hK _
 | error e =>
  rw [hr] at hK
  intro hne x h'
  simp -dsimp -implicitDefEqProofs only [↓STP, STQ, seval]
  exact hK _
theorem maxR (v : VT p) (li : p.ins.length ≤ 1000) (la : p.arrays.length ≤ 1000) (hK : ∀ h', K (.ret (.tuple [I (mostT (checkT p)), I (errT (checkT p))])) h') : R 14 [p.v] h K := by
 refine run14 (Nat.le_of_ble_eq_true rfl) ?_
 have hv0 : p.v = V.agg [.vec (p.ins.map InD.v) .any, .vec (p.arrays.map ArD.v) .any, .vec (p.body.map Stm.v) .any] := rfl
 simp -dsimp -implicitDefEqProofs only [↓STP, STQ, seval, ir14, hv0]
 rw [← hv0]
 refine throughR v li la ?_
 cases hr : checkT p with
 | ok σ =>
  rw [hr] at hK
  intro L' h' A'
  have gx := get_of A'.x
  simp -dsimp -implicitDefEqProofs only [↓STP, STQ, seval, gx, Lr.cs]
  exact hK _
 | error e =>
  rw [hr] at hK
  intro hne x h'
  simp -dsimp -implicitDefEqProofs only [↓STP, STQ, seval, eq_false hne]
  exact hK _
theorem checkFieldR (v : VT p) (li : p.ins.length ≤ 1000) (la : p.arrays.length ≤ 1000) {q e : Nat} (hs : Supp q e) (hK : ∀ h', K (.ret (I (fieldE (checkT p) e))) h') : R 17 [p.v, W q] h K := by
 obtain ⟨_, e5, e61, hq⟩ := hs.eq
 refine run17 (Nat.le_of_ble_eq_true rfl) ?_
 have hv0 : p.v = V.agg [.vec (p.ins.map InD.v) .any, .vec (p.arrays.map ArD.v) .any, .vec (p.body.map Stm.v) .any] := rfl
 simp -dsimp -implicitDefEqProofs only [↓STP, STQ, seval, ir17, hv0]
 rw [← hv0]
 refine maxR v li la fun h1 => ?_
 unfold fieldE at hK
 by_cases c : errT (checkT p) = 0
 rotate_left
 ·rw [if_pos c] at hK
  simp -dsimp -implicitDefEqProofs only [↓STP, STQ, seval, eq_false c]
  exact hK _
 rw [if_neg (fun h => h c)] at hK
 simp -dsimp -implicitDefEqProofs only [↓STP, STQ, seval, eq_true c]
 refine exponent_spec hq fun x hx => ?_
 have hxe : x = e := by
  rcases hx with ⟨q', hs', rfl⟩ | ⟨hn, _⟩
  ·have hs := hs
   have : q' = e := by unfold Supp at hs hs'; omega
   rw [this]
  ·exact absurd hs (hn _)
 subst hxe
 have w1 : IntKind.i64.wrap ((e : Int) - 1) = (e : Int) - 1 := wrap_i64 (by omega) (by omega)
 by_cases d : (mostT (checkT p) : Int) > (e : Int) - 1
 ·rw [if_pos d] at hK
  have d' : (e : Int) - 1 < (mostT (checkT p) : Int) := d
  simp -dsimp -implicitDefEqProofs only [↓STP, STQ, seval, w1, eq_true d']
  exact hK _
 ·rw [if_neg d] at hK
  have d' : ¬ (e : Int) - 1 < (mostT (checkT p) : Int) := d
  simp -dsimp -implicitDefEqProofs only [↓STP, STQ, seval, w1, eq_false d']
  exact hK _
theorem check29 {p : Prg} (ok : POk p) (hb : p.v.bulk ≤ 1048576) (hK : ∀ h', K (.ret (.bool true)) h') : R 3 [p.v] h K := by
 refine run3 (Nat.le_of_ble_eq_true rfl) ?_
 have hv0 : p.v = V.agg [.vec (p.ins.map InD.v) .any, .vec (p.arrays.map ArD.v) .any, .vec (p.body.map Stm.v) .any] := rfl
 simp -dsimp -implicitDefEqProofs only [↓STP, STQ, seval, ir3, hv0]
 rw [← hv0]
 refine small29L ok hb fun b hvp => ?_
 cases b with
 | false =>
  simp -dsimp -implicitDefEqProofs only [↓STP, STQ, seval]
  refine awake29 fun h' _ => ?_
  simp -dsimp -implicitDefEqProofs only [↓STP, STQ, seval]
  exact hK _
 | true =>
 obtain ⟨hvp, li, la⟩ := hvp rfl
 have v := hvp.vt ok
 simp -dsimp -implicitDefEqProofs only [↓STP, STQ, seval]
 refine awake29 fun h1 _ => ?_
 simp -dsimp -implicitDefEqProofs only [↓STP, STQ, seval, hv0]
 rw [← hv0]
 refine checkG v fun h2 u2 => ?_
 simp -dsimp -implicitDefEqProofs only [↓STP, STQ, seval, hv0, eq_self]
 rw [← hv0]
 refine checkR v (by omega) (by omega) fun h3 => ?_
 simp -dsimp -implicitDefEqProofs only [↓STP, STQ, seval, eq_self]
 exact hK _
theorem max29 {p : Prg} {k : Nat} (hk : k < 18446744073709551616) (ok : POk p) (hb : p.v.bulk ≤ 1048576) (hK : ∀ h', K (.ret (.bool true)) h') : R 4 [p.v, W k] h K := by
 refine run4 (Nat.le_of_ble_eq_true rfl) ?_
 have hv0 : p.v = V.agg [.vec (p.ins.map InD.v) .any, .vec (p.arrays.map ArD.v) .any, .vec (p.body.map Stm.v) .any] := rfl
 simp -dsimp -implicitDefEqProofs only [↓STP, STQ, seval, ir4, hv0]
 rw [← hv0]
 refine small29L ok hb fun b hvp => ?_
 cases b with
 | false =>
  simp -dsimp -implicitDefEqProofs only [↓STP, STQ, seval]
  refine awake29 fun h' _ => ?_
  simp -dsimp -implicitDefEqProofs only [↓STP, STQ, seval]
  exact hK _
 | true =>
 obtain ⟨hvp, li, la⟩ := hvp rfl
 have v := hvp.vt ok
 simp -dsimp -implicitDefEqProofs only [↓STP, STQ, seval, hv0]
 rw [← hv0]
 refine maxG v fun h2 u2 => ?_
 simp -dsimp -implicitDefEqProofs only [↓STP, STQ, seval, hv0]
 rw [← hv0]
 refine maxR v (by omega) (by omega) fun h3 => ?_
 simp -dsimp -implicitDefEqProofs only [↓STP, STQ, seval]
 refine fit_spec hk fun q e sq => ?_
 simp -dsimp -implicitDefEqProofs only [↓STP, STQ, seval]
 refine awake29 fun h4 _ => ?_
 simp -dsimp -implicitDefEqProofs only [↓STP, STQ, seval, eq_self, hv0]
 rw [← hv0]
 refine checkFieldG v sq fun h5 u5 => ?_
 simp -dsimp -implicitDefEqProofs only [↓STP, STQ, seval, eq_self, hv0]
 rw [← hv0]
 refine checkFieldR v (by omega) (by omega) sq fun h6 => ?_
 simp -dsimp -implicitDefEqProofs only [↓STP, STQ, seval, eq_self]
 exact hK _
end
end YtihmoaibgmhjeaaDoor
end Go.Ab
