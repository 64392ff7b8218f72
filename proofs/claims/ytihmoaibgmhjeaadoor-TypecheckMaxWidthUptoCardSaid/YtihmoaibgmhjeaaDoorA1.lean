import Derived.Test.YtihmoaibgmhjeaaDoorAb34
import Derived.Test.YtihmoaibgmhjeaaDoorAb32
set_option linter.unusedVariables false
set_option linter.unusedSimpArgs false
namespace Go.Ab
inductive Exp where
 | mk (kind op : Int) (num : Nat) (name : ByteArray) (kids : List Exp)
mutual
def Exp.v : Exp → V
 | .mk k o n s ks => .agg [I k, I o, W n, .str s, .vec (Exp.vs ks) .any]
def Exp.vs : List Exp → List V
 | [] => []
 | e :: es => e.v :: Exp.vs es
end
theorem Exp.vs_map : ∀ l : List Exp, Exp.vs l = l.map Exp.v
 | [] => rfl
 | e :: es => by rw [Exp.vs, Exp.vs_map es]; rfl
def Exp.kind : Exp → Int | .mk k _ _ _ _ => k
def Exp.op : Exp → Int | .mk _ o _ _ _ => o
def Exp.num : Exp → Nat | .mk _ _ n _ _ => n
def Exp.name : Exp → ByteArray | .mk _ _ _ s _ => s
def Exp.kids : Exp → List Exp | .mk _ _ _ _ ks => ks
def Exp.cells (e : Exp) : List V := [I e.kind, I e.op, W e.num, .str e.name, .vec (e.kids.map Exp.v) .any]
theorem Exp.v_eq (e : Exp) : e.v = .agg e.cells := by
 cases e with
 | mk k o n s ks => rw [Exp.v, Exp.vs_map]; rfl
theorem Exp.ind {P : Exp → Prop} (h : ∀ k o n s ks, (∀ x ∈ ks, P x) → P (.mk k o n s ks)) : ∀ e, P e
 | .mk k o n s ks => h k o n s ks fun x hx => Exp.ind h x
inductive Stm where
 | mk (kind : Int) (name : ByteArray) (e : List Exp) (thn els : List Stm)
mutual
def Stm.v : Stm → V
 | .mk k s e a b => .agg [I k, .str s, .vec (e.map Exp.v) .any, .vec (Stm.vs a) .any, .vec (Stm.vs b) .any]
def Stm.vs : List Stm → List V
 | [] => []
 | e :: es => e.v :: Stm.vs es
end
theorem Stm.vs_map : ∀ l : List Stm, Stm.vs l = l.map Stm.v
 | [] => rfl
 | e :: es => by rw [Stm.vs, Stm.vs_map es]; rfl
def Stm.kind : Stm → Int | .mk k _ _ _ _ => k
def Stm.name : Stm → ByteArray | .mk _ s _ _ _ => s
def Stm.e : Stm → List Exp | .mk _ _ e _ _ => e
def Stm.thn : Stm → List Stm | .mk _ _ _ a _ => a
def Stm.els : Stm → List Stm | .mk _ _ _ _ b => b
def Stm.cells (s : Stm) : List V := [I s.kind, .str s.name, .vec (s.e.map Exp.v) .any, .vec (s.thn.map Stm.v) .any, .vec (s.els.map Stm.v) .any]
theorem Stm.v_eq (s : Stm) : s.v = .agg s.cells := by
 cases s with
 | mk k s e a b => rw [Stm.v, Stm.vs_map, Stm.vs_map]; rfl
theorem Stm.ind {P : Stm → Prop} (h : ∀ k s e a b, (∀ x ∈ a, P x) → (∀ x ∈ b, P x) → P (.mk k s e a b)) : ∀ s, P s
 | .mk k s e a b => h k s e a b (fun x hx => Stm.ind h x) (fun x hx => Stm.ind h x)
structure InD where
 name : ByteArray
 frm : Int
 width : Int
 size : Int
def InD.cells (x : InD) : List V := [.str x.name, I x.frm, I x.width, I x.size]
def InD.v (x : InD) : V := .agg x.cells
structure ArD where
 name : ByteArray
 size : Int
def ArD.cells (x : ArD) : List V := [.str x.name, I x.size]
def ArD.v (x : ArD) : V := .agg x.cells
structure Prg where
 ins : List InD
 arrays : List ArD
 body : List Stm
def Prg.cells (p : Prg) : List V := [.vec (p.ins.map InD.v) .any, .vec (p.arrays.map ArD.v) .any, .vec (p.body.map Stm.v) .any]
def Prg.v (p : Prg) : V := .agg p.cells
def I64 (n : Int) : Prop := -9223372036854775808 ≤ n ∧ n ≤ 9223372036854775807
inductive EOk : Exp → Prop
 | mk {k o : Int} {n : Nat} {s : ByteArray} {ks : List Exp} (hk : I64 k) (ho : I64 o) (hn : n < 18446744073709551616) (hs : s.size ≤ maxLen) (hl : ks.length ≤ maxLen) (h : ∀ x ∈ ks, EOk x) : EOk (.mk k o n s ks)
inductive SOk : Stm → Prop
 | mk {k : Int} {s : ByteArray} {e : List Exp} {a b : List Stm} (hk : I64 k) (hs : s.size ≤ maxLen) (hle : e.length ≤ maxLen) (hla : a.length ≤ maxLen) (hlb : b.length ≤ maxLen) (he : ∀ x ∈ e, EOk x) (ha : ∀ x ∈ a, SOk x) (hb : ∀ x ∈ b, SOk x) : SOk (.mk k s e a b)
structure InOk (x : InD) : Prop where
 f : I64 x.frm
 w : I64 x.width
 s : I64 x.size
 n : x.name.size ≤ maxLen
structure ArOk (x : ArD) : Prop where
 s : I64 x.size
 n : x.name.size ≤ maxLen
structure POk (p : Prg) : Prop where
 ins : ∀ x ∈ p.ins, InOk x
 arrays : ∀ x ∈ p.arrays, ArOk x
 body : ∀ x ∈ p.body, SOk x
 li : p.ins.length ≤ maxLen
 la : p.arrays.length ≤ maxLen
 lb : p.body.length ≤ maxLen
section
variable {P : Program} {t te ti tw ts : TypeId}
theorem list_of {α : Type} {f : α → V} {Q : α → Prop} {css : List (List V)} (h : ∀ cs ∈ css, ∃ a, cs = (f a).cells ∧ Q a ∧ ∃ l, f a = .agg l) : ∃ l : List α, css.map (mkEl true) = l.map f ∧ l.length = css.length ∧ ∀ x ∈ l, Q x := by
 induction css with
 | nil => exact ⟨[], rfl, rfl, by simp⟩
 | cons cs css ih =>
  obtain ⟨a, h1, h2, l', h5⟩ := h cs (by simp)
  obtain ⟨l, h3, h4, h6⟩ := ih (fun cs hc => h cs (by simp [hc]))
  refine ⟨a :: l, ?_, by simp [h4], fun x hx => ?_⟩
  ·rw [List.map_cons, List.map_cons, h3, h1, h5]; rfl
  ·rcases List.mem_cons.1 hx with rfl | hx
   ·exact h2
   ·exact h6 x hx
theorem parts_5 {fs : Array Field} {parts : List (List V)} {f0 f1 f2 f3 f4 : Field} (hfs : fs = #[f0, f1, f2, f3, f4]) (hl : parts.length = fs.size) (hp : ∀ (i : Nat) (f : Field) (cs : List V), fs[i]? = some f → parts[i]? = some cs → Ty P f.type cs) :
  ∃ a b c d e, parts = [a, b, c, d, e] ∧ Ty P f0.type a ∧ Ty P f1.type b ∧ Ty P f2.type c ∧ Ty P f3.type d ∧ Ty P f4.type e := by
 subst hfs
 match parts, hl with
 | [a, b, c, d, e], _ => exact ⟨a, b, c, d, e, rfl, hp 0 f0 a rfl rfl, hp 1 f1 b rfl rfl, hp 2 f2 c rfl rfl, hp 3 f3 d rfl rfl, hp 4 f4 e rfl rfl⟩
theorem parts_4 {fs : Array Field} {parts : List (List V)} {f0 f1 f2 f3 : Field} (hfs : fs = #[f0, f1, f2, f3]) (hl : parts.length = fs.size) (hp : ∀ (i : Nat) (f : Field) (cs : List V), fs[i]? = some f → parts[i]? = some cs → Ty P f.type cs) :
  ∃ a b c d, parts = [a, b, c, d] ∧ Ty P f0.type a ∧ Ty P f1.type b ∧ Ty P f2.type c ∧ Ty P f3.type d := by
 subst hfs
 match parts, hl with
 | [a, b, c, d], _ => exact ⟨a, b, c, d, rfl, hp 0 f0 a rfl rfl, hp 1 f1 b rfl rfl, hp 2 f2 c rfl rfl, hp 3 f3 d rfl rfl⟩
theorem parts_3 {fs : Array Field} {parts : List (List V)} {f0 f1 f2 : Field} (hfs : fs = #[f0, f1, f2]) (hl : parts.length = fs.size) (hp : ∀ (i : Nat) (f : Field) (cs : List V), fs[i]? = some f → parts[i]? = some cs → Ty P f.type cs) :
  ∃ a b c, parts = [a, b, c] ∧ Ty P f0.type a ∧ Ty P f1.type b ∧ Ty P f2.type c := by
 subst hfs
 match parts, hl with
 | [a, b, c], _ => exact ⟨a, b, c, rfl, hp 0 f0 a rfl rfl, hp 1 f1 b rfl rfl, hp 2 f2 c rfl rfl⟩
theorem parts_2 {fs : Array Field} {parts : List (List V)} {f0 f1 : Field} (hfs : fs = #[f0, f1]) (hl : parts.length = fs.size) (hp : ∀ (i : Nat) (f : Field) (cs : List V), fs[i]? = some f → parts[i]? = some cs → Ty P f.type cs) :
  ∃ a b, parts = [a, b] ∧ Ty P f0.type a ∧ Ty P f1.type b := by
 subst hfs
 match parts, hl with
 | [a, b], _ => exact ⟨a, b, rfl, hp 0 f0 a rfl rfl, hp 1 f1 b rfl rfl⟩
structure AstT (P : Program) (tE tEs tS tSs : TypeId) (e0 e1 e2 e3 e4 s0 s1 s2 s3 s4 : Field) : Prop where
 e : P.underlying tE = some (.struct #[e0, e1, e2, e3, e4])
 ek : P.underlying e0.type = some (.int .i64)
 eo : P.underlying e1.type = some (.int .i64)
 en : P.underlying e2.type = some (.int .u64)
 es : P.underlying e3.type = some .string
 eks : e4.type = tEs
 es2 : P.underlying tEs = some (.slice tE)
 s : P.underlying tS = some (.struct #[s0, s1, s2, s3, s4])
 sk : P.underlying s0.type = some (.int .i64)
 sn : P.underlying s1.type = some .string
 se : s2.type = tEs
 sa : s3.type = tSs
 sb : s4.type = tSs
 ss : P.underlying tSs = some (.slice tS)
variable {tE tEs tS tSs : TypeId} {e0 e1 e2 e3 e4 s0 s1 s2 s3 s4 : Field}
theorem ty_expr (hT : AstT P tE tEs tS tSs e0 e1 e2 e3 e4 s0 s1 s2 s3 s4) {t : TypeId} {cs : List V} (h : Ty P t cs) : (t = tE → ∃ e : Exp, cs = e.v.cells ∧ EOk e) ∧ (t = tEs → ∃ l : List Exp, cs = [.vec (l.map Exp.v) .any] ∧ l.length ≤ maxLen ∧ ∀ x ∈ l, EOk x) := by
 have hag := agg_struct hT.e
 have uE := hT.e
 have uEs := hT.es2
 induction h with
 | bool ht b => exact ⟨fun e => (by subst e; rw [uE] at ht; cases ht), fun e => (by subst e; rw [uEs] at ht; cases ht)⟩
 | int ht n hn => exact ⟨fun e => (by subst e; rw [uE] at ht; cases ht), fun e => (by subst e; rw [uEs] at ht; cases ht)⟩
 | str ht s hs => exact ⟨fun e => (by subst e; rw [uE] at ht; cases ht), fun e => (by subst e; rw [uEs] at ht; cases ht)⟩
 | @slice t e ag ht ha css hc hl ih =>
  refine ⟨fun h => (by subst h; rw [uE] at ht; cases ht), fun h => ?_⟩
  subst h
  rw [uEs] at ht
  cases ht
  rw [hag] at ha
  cases ha
  obtain ⟨l, h1, h2, h3⟩ := list_of (f := Exp.v) (Q := EOk) (css := css) (fun cs hcs => by
   obtain ⟨e, h1, h2⟩ := (ih cs hcs).1 rfl
   exact ⟨e, h1, h2, e.cells, e.v_eq⟩)
  exact ⟨l, by rw [h1], by omega, h3⟩
 | @struct t fs ht parts hl hp ih =>
  refine ⟨fun h => ?_, fun h => (by subst h; rw [uEs] at ht; cases ht)⟩
  subst h
  rw [uE] at ht
  cases ht
  obtain ⟨a, b, c, d, e, rfl, h0, h1, h2, h3, h4⟩ := parts_5 rfl hl hp
  obtain ⟨k, rfl, hk⟩ := ty_int hT.ek h0
  obtain ⟨o, rfl, ho⟩ := ty_int hT.eo h1
  obtain ⟨n, rfl, hn⟩ := ty_int hT.en h2
  obtain ⟨s, rfl, hs⟩ := ty_str hT.es h3
  obtain ⟨m, rfl, hm⟩ := wf_u64 hn
  obtain ⟨l, rfl, hl1, hl2⟩ := (ih 4 e4 _ rfl rfl).2 hT.eks
  refine ⟨.mk k o m s l, ?_, .mk (wf_i64 hk) (wf_i64 ho) hm hs hl1 hl2⟩
  rw [Exp.v_eq]; rfl
 | array ht parts hl hp ih => exact ⟨fun e => (by subst e; rw [uE] at ht; cases ht), fun e => (by subst e; rw [uEs] at ht; cases ht)⟩
theorem ty_stmt (hT : AstT P tE tEs tS tSs e0 e1 e2 e3 e4 s0 s1 s2 s3 s4) {t : TypeId} {cs : List V} (h : Ty P t cs) : (t = tS → ∃ e : Stm, cs = e.v.cells ∧ SOk e) ∧ (t = tSs → ∃ l : List Stm, cs = [.vec (l.map Stm.v) .any] ∧ l.length ≤ maxLen ∧ ∀ x ∈ l, SOk x) := by
 have hag := agg_struct hT.s
 have uE := hT.s
 have uEs := hT.ss
 induction h with
 | bool ht b => exact ⟨fun e => (by subst e; rw [uE] at ht; cases ht), fun e => (by subst e; rw [uEs] at ht; cases ht)⟩
 | int ht n hn => exact ⟨fun e => (by subst e; rw [uE] at ht; cases ht), fun e => (by subst e; rw [uEs] at ht; cases ht)⟩
 | str ht s hs => exact ⟨fun e => (by subst e; rw [uE] at ht; cases ht), fun e => (by subst e; rw [uEs] at ht; cases ht)⟩
 | @slice t e ag ht ha css hc hl ih =>
  refine ⟨fun h => (by subst h; rw [uE] at ht; cases ht), fun h => ?_⟩
  subst h
  rw [uEs] at ht
  cases ht
  rw [hag] at ha
  cases ha
  obtain ⟨l, h1, h2, h3⟩ := list_of (f := Stm.v) (Q := SOk) (css := css) (fun cs hcs => by
   obtain ⟨e, h1, h2⟩ := (ih cs hcs).1 rfl
   exact ⟨e, h1, h2, e.cells, e.v_eq⟩)
  exact ⟨l, by rw [h1], by omega, h3⟩
 | @struct t fs ht parts hl hp ih =>
  refine ⟨fun h => ?_, fun h => (by subst h; rw [uEs] at ht; cases ht)⟩
  subst h
  rw [uE] at ht
  cases ht
  obtain ⟨a, b, c, d, e, rfl, h0, h1, h2, h3, h4⟩ := parts_5 rfl hl hp
  obtain ⟨k, rfl, hk⟩ := ty_int hT.sk h0
  obtain ⟨s, rfl, hs⟩ := ty_str hT.sn h1
  obtain ⟨l, rfl, hl1, hl2⟩ := (ty_expr hT h2).2 hT.se
  obtain ⟨l3, rfl, hl3, hl4⟩ := (ih 3 s3 _ rfl rfl).2 hT.sa
  obtain ⟨l5, rfl, hl5, hl6⟩ := (ih 4 s4 _ rfl rfl).2 hT.sb
  refine ⟨.mk k s l l3 l5, ?_, .mk (wf_i64 hk) hs hl1 hl3 hl5 hl2 hl4 hl6⟩
  rw [Stm.v_eq]; rfl
 | array ht parts hl hp ih => exact ⟨fun e => (by subst e; rw [uE] at ht; cases ht), fun e => (by subst e; rw [uEs] at ht; cases ht)⟩
theorem ty_in {tI : TypeId} {f0 f1 f2 f3 : Field} (hI : P.underlying tI = some (.struct #[f0, f1, f2, f3])) (h0 : P.underlying f0.type = some .string) (h1 : P.underlying f1.type = some (.int .i64)) (h2 : P.underlying f2.type = some (.int .i64)) (h3 : P.underlying f3.type = some (.int .i64)) {cs : List V} (h : Ty P tI cs) : ∃ x : InD, cs = x.v.cells ∧ InOk x := by
 obtain ⟨parts, rfl, hl, hp⟩ := ty_struct hI h
 obtain ⟨a, b, c, d, rfl, g0, g1, g2, g3⟩ := parts_4 rfl hl hp
 obtain ⟨s, rfl, hs⟩ := ty_str h0 g0
 obtain ⟨x, rfl, hx⟩ := ty_int h1 g1
 obtain ⟨y, rfl, hy⟩ := ty_int h2 g2
 obtain ⟨z, rfl, hz⟩ := ty_int h3 g3
 exact ⟨⟨s, x, y, z⟩, rfl, ⟨wf_i64 hx, wf_i64 hy, wf_i64 hz, hs⟩⟩
theorem ty_ar {tA : TypeId} {f0 f1 : Field} (hA : P.underlying tA = some (.struct #[f0, f1])) (h0 : P.underlying f0.type = some .string) (h1 : P.underlying f1.type = some (.int .i64)) {cs : List V} (h : Ty P tA cs) : ∃ x : ArD, cs = x.v.cells ∧ ArOk x := by
 obtain ⟨parts, rfl, hl, hp⟩ := ty_struct hA h
 obtain ⟨a, b, rfl, g0, g1⟩ := parts_2 rfl hl hp
 obtain ⟨s, rfl, hs⟩ := ty_str h0 g0
 obtain ⟨x, rfl, hx⟩ := ty_int h1 g1
 exact ⟨⟨s, x⟩, rfl, ⟨wf_i64 hx, hs⟩⟩
end
end Go.Ab
