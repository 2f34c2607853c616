/- Typing: fresh, define (the program's side). -/
import Derived.Test.YtljfgdlgmdcmfaaGreatTypJ
namespace Go.Proofs.YtljfgdlgmdcmfaaGreat
open Go.RowKit Wv
set_option linter.unusedVariables false
set_option linter.unusedSimpArgs false

set_option maxHeartbeats 400000 in
set_option maxRecDepth 100000 in
theorem pfresh_rd (x : Par) (t : Int) (ns : Nms) (s : ByteArray) : RD Tryz.prog 63 [.ptr 0 0, .v (.string s)] (hT x t ns) (fun r => findN ns s = none ∧ r = .tup []) (fun r => findN ns s ≠ none ∧ r = stopA 230) := by
  refine RD.of ?_ (by rintro r ⟨_, rfl⟩; exact .clo (by simp only [Wv.BC])) (by rintro r ⟨_, rfl⟩; exact .clo (stop_clo 230)) (hT_lo x t ns)
  have hlm := look_ns s ns
  unfold hT tyC
  refine Wv.HTP.by 18 [0, 1, 5] [(1000000, 2)] [] Tryz.func63 rfl rfl rfl ?base ?_
  case base => rfl
  cases hq : findN ns s with
  | none =>
    rw [hq] at hlm
    simp only [Option.map_none] at hlm
    simp (disch := first | assumption | exact Wv.D | fail) only [Wv.B, simprocAttr, kb_ns, hlm]
    refine call_HTP (fst := []) (cap := []) (demand_rd true 230) ?_ (by rintro av h' ⟨hb, _⟩; cases hb)
    rintro av h' ⟨_, rfl, rfl⟩
    simp (disch := first | assumption | exact Wv.D | fail) only [Wv.B, simprocAttr, hq]
  | some r =>
    rw [hq] at hlm
    simp only [Option.map_some, shA] at hlm
    simp (disch := first | assumption | exact Wv.D | fail) only [Wv.B, simprocAttr, kb_ns, hlm]
    refine call_HTP (fst := []) (cap := []) (demand_rd false 230) (by rintro av h' ⟨hb, _⟩; cases hb) ?_
    rintro av h' ⟨_, rfl, rfl⟩
    simp (disch := first | assumption | exact Wv.D | fail) only [Wv.B, simprocAttr, stop_close, hq]
theorem put_ns (s : ByteArray) (r : Bool × Nat) : ∀ ns : Nms, findN ns s = none → putM (.string s) (shA r) (nsE ns) = nsE (ns ++ [(s, r)])
  | [], _ => rfl
  | p :: q, h => by
    unfold findN at h
    by_cases e : s = p.1
    · rw [if_pos e] at h; cases h
    · rw [if_neg e] at h
      have ih := put_ns s r q h
      show (if keyE (.string s) (.string p.1) = true then _ else _) = _
      have : keyE (.string s) (.string p.1) = decide (s = p.1) := ke_str
      rw [this, if_neg (by simp [e])]
      show (Value.string p.1, shA p.2) :: putM (.string s) (shA r) (nsE q) = _
      rw [ih]
      rfl
theorem loH_fr {m : Nat} : ∀ {h : Hp}, loH m h → loH m (h.map froze)
  | [], q => q
  | none :: r, q => loH_fr (h := r) q
  | some (.blk c) :: r, q => ⟨q.1, loH_fr q.2⟩
  | some (.arr T s c fz) :: r, q => ⟨q.1, loH_fr q.2⟩
  | some (.map es) :: r, q => ⟨q.1, loH_fr q.2⟩
theorem loH_app {m : Nat} : ∀ {a b : Hp}, loH m (a ++ b) = (loH m a ∧ loH m b)
  | [], b => by show loH m b = (True ∧ loH m b); rw [true_and]
  | none :: r, b => loH_app (a := r)
  | some (.blk c) :: r, b => by show (loL m c ∧ loH m (r ++ b)) = ((loL m c ∧ loH m r) ∧ loH m b); rw [loH_app, and_assoc]
  | some (.arr T s c fz) :: r, b => by show (loL m c ∧ loH m (r ++ b)) = ((loL m c ∧ loH m r) ∧ loH m b); rw [loH_app, and_assoc]
  | some (.map es) :: r, b => by show (loL m (es.map (·.2)) ∧ loH m (r ++ b)) = ((loL m (es.map (·.2)) ∧ loH m r) ∧ loH m b); rw [loH_app, and_assoc]
set_option maxHeartbeats 400000 in
set_option maxRecDepth 100000 in
/-- define, where the typer's object has the number 7 and its map 6. -/
theorem pdefine_ht (o0 o1 o2 o3 o4 o5 : Option Ob) (r0 : Hp) (P : List AV) (hP : P.length = 8) (ns : Nms) (s : ByteArray) (r : Bool × Nat) (hn : findN ns s = none) (hlo : loH (r0.length + 8) (o0 :: o1 :: o2 :: o3 :: o4 :: o5 :: some (.map (nsE ns)) :: some (.blk (P ++ [.mp 6])) :: r0)) :
    HT Tryz.prog 64 [.ptr 7 0, .v (.string s), shA r] (o0 :: o1 :: o2 :: o3 :: o4 :: o5 :: some (.map (nsE ns)) :: some (.blk (P ++ [.mp 6])) :: r0)
      (fun q h' => q = .tup [] ∧ h' = froze o0 :: froze o1 :: froze o2 :: froze o3 :: froze o4 :: froze o5 :: some (.map (nsE (ns ++ [(s, r)]))) :: some (.blk (P ++ [.mp 6])) :: r0.map froze) := by
  have hput := put_ns s r ns hn
  unfold shA at hput ⊢
  match P, hP with
  | [p0, p1, p2, p3, p4, p5, p6, p7], _ =>
  simp only [List.cons_append, List.nil_append] at hlo ⊢
  have T : HT Tryz.prog 64 [.ptr 7 0, .v (.string s), .g [.v (.bool r.1), .v (.int .i64 r.2)]] (o0 :: o1 :: o2 :: o3 :: o4 :: o5 :: some (.map (nsE ns)) :: some (.blk [p0, p1, p2, p3, p4, p5, p6, p7, .mp 6]) :: r0)
      (fun q h' => q = .tup [] ∧ h'.take (r0.length + 8) = froze o0 :: froze o1 :: froze o2 :: froze o3 :: froze o4 :: froze o5 :: some (.map (nsE (ns ++ [(s, r)]))) :: some (.blk [p0, p1, p2, p3, p4, p5, p6, p7, .mp 6]) :: r0.map froze) := by
    refine Wv.HT.by 12 [2, 0, 1, 5] [(1, 6), (1000000, r0.length + 8)] [] Tryz.func64 rfl rfl rfl ?base ?_
    case base => rfl
    have hget : ∀ o : Option Ob, (List.map froze (r0 ++ [o]))[r0.length]? = some (froze o) := fun o => by rw [List.getElem?_map, List.getElem?_concat_length]; rfl
    have hend : ∀ o : Option Ob, List.take r0.length (List.map froze (r0 ++ [o])) = List.map froze r0 := fun o => by
      rw [List.map_append, List.take_append_of_le_length (by rw [List.length_map]; exact Nat.le_refl _), List.take_of_length_le (by rw [List.length_map]; exact Nat.le_refl _)]
    simp (disch := first | assumption | exact Wv.D | fail) only [Wv.B, simprocAttr, kb_ns, hput, hget, hend, List.length_cons]
  have hfin : loH (r0.length + 8) (froze o0 :: froze o1 :: froze o2 :: froze o3 :: froze o4 :: froze o5 :: some (.map (nsE (ns ++ [(s, r)]))) :: some (.blk [p0, p1, p2, p3, p4, p5, p6, p7, .mp 6]) :: r0.map froze) := by
    have h1 := loH_fr hlo
    have e1 : ∀ es : List (Value × AV), List.map froze (o0 :: o1 :: o2 :: o3 :: o4 :: o5 :: some (.map es) :: some (.blk [p0, p1, p2, p3, p4, p5, p6, p7, .mp 6]) :: r0) = [froze o0, froze o1, froze o2, froze o3, froze o4, froze o5] ++ some (.map es) :: some (.blk [p0, p1, p2, p3, p4, p5, p6, p7, .mp 6]) :: r0.map froze := fun es => rfl
    rw [e1, loH_app] at h1
    show loH _ ([froze o0, froze o1, froze o2, froze o3, froze o4, froze o5] ++ some (.map (nsE (ns ++ [(s, r)]))) :: some (.blk [p0, p1, p2, p3, p4, p5, p6, p7, .mp 6]) :: r0.map froze)
    rw [loH_app]
    exact ⟨h1.1, fun a ha => .clo (nsE_clo _ a ha), h1.2.2⟩
  refine (((T.toP fun _ _ => False).cut (fun q h' e => ?_) (fun _ _ e => e.elim)).mono ?_ ?_).toT fun _ _ e => e
  · obtain ⟨rfl, e⟩ := e
    refine ⟨.clo (by simp only [Wv.BC]), ?_⟩
    simp only [List.length_cons]
    rw [e]
    exact hfin
  · rintro q h2 ⟨h', ⟨rfl, e⟩, rfl⟩
    refine ⟨rfl, ?_⟩
    simp only [List.length_cons]
    exact e
  · rintro q h2 ⟨_, e, _⟩
    exact e.elim
def tyP (x : Par) (t : Int) : List AV := [.v (.int .i64 x.n), .v (.int .u32 x.p), .v (.int .i64 x.r), .t x.ch.length 1 (x.ch.map fun (c : Nat) => .v (.int .u32 c)), .v (.int .u32 x.sp), .v (.int .i64 x.wt), .v (.int .u32 x.er), .v (.int .i64 t)]
theorem tyP_clo (x : Par) (t : Int) : ∀ a, a ∈ tyP x t → Clo a := by
  have h := parC_clo x
  simp only [parC, List.mem_cons, List.not_mem_nil, or_false, forall_eq_or_imp, forall_eq] at h
  obtain ⟨h1, h2, h3, h4, h5, h6, h7⟩ := h
  unfold tyP
  simp only [List.mem_cons, List.not_mem_nil, or_false, forall_eq_or_imp, forall_eq]
  exact ⟨h1, h2, h3, h4, h5, h6, h7, .v _⟩
/-- The same, where the typer's object has the number 7 and its map 6. -/
theorem rdT7 {x : Par} {t : Int} {ns : Nms} {f : FuncId} {args : List AV} {R p : AV → Prop} (T : RD Tryz.prog f (.ptr 0 0 :: args) (hT x t ns) R p) (o0 o1 o2 o3 o4 o5 : Option Ob) (r : Hp) (ha : ∀ (a : AV), a ∈ args → Clo a) (hR : ∀ r, R r → Clo r) (hp : ∀ r, p r → Clo r) :
    RD Tryz.prog f (.ptr 7 0 :: args) (o0 :: o1 :: o2 :: o3 :: o4 :: o5 :: some (.map (nsE ns)) :: some (.blk (tyP x t ++ [.mp 6])) :: r) R p := by
  have h := parC_clo x
  simp only [parC, List.mem_cons, List.not_mem_nil, or_false, forall_eq_or_imp, forall_eq] at h
  obtain ⟨h1, h2, h3, h4, h5, h6, h7⟩ := h
  refine RD.frame (σ := fun i => if i = 0 then 7 else 6) T ⟨fun i j hi hj e => ?_, fun i o ho => ?_⟩ ⟨.ptr (by show 0 < 2; omega), RnL.clo ha⟩ hR hp
  · have hi' : i < 2 := hi
    have hj' : j < 2 := hj
    have e' : (if i = 0 then 7 else 6) = (if j = 0 then 7 else 6) := e
    split at e' <;> split at e' <;> omega
  · unfold hT at ho ⊢
    match i with
    | 0 =>
      simp at ho; subst ho
      exact ⟨_, _, rfl, rfl, .clo h1, .clo h2, .clo h3, .clo h4, .clo h5, .clo h6, .clo h7, .clo (.v _), .mp (by show 1 < 2; omega), trivial⟩
    | 1 =>
      simp at ho; subst ho
      exact ⟨_, _, rfl, rfl, rfl, RnL.clo (nsE_clo ns)⟩
    | i + 2 => simp at ho
end Go.Proofs.YtljfgdlgmdcmfaaGreat
