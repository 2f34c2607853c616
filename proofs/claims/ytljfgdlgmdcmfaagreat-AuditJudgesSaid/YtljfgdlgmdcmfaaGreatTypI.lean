/- Typing: the typer's object; rules of numbers, products, powers (the program's side). -/
import Derived.Test.YtljfgdlgmdcmfaaGreatTypH
import Derived.Test.YtljfgdlgmdcmfaaGreatParA
namespace Go.Proofs.YtljfgdlgmdcmfaaGreat
open Go.RowKit Wv
set_option linter.unusedVariables false
set_option linter.unusedSimpArgs false

theorem Rn.refl {n : Nat} {a : AV} (h : lo n a) (ht : ∀ l, a ≠ .tup l) (hi : ∀ T x, a ≠ .ifc T x) (hm : ∀ es, a ≠ .tm es) (hg : ∀ l, a = .g l → ∀ x, x ∈ l → Rn id n x x) (hf : ∀ f l k, a = .fn f l k → (∀ x, x ∈ l → Rn id n x x) ∧ ∀ x, x ∈ k → Rn id n x x) : Rn id n a a := by
  have same : ∀ (l : List AV), (∀ x, x ∈ l → Rn id n x x) → ∀ (i : Nat) (a b : AV), l[i]? = some a → l[i]? = some b → Rn id n a b := fun l h i a b h1 h2 => by
    rw [h1] at h2; injection h2 with h2; subst h2; exact h a (List.mem_of_getElem? h1)
  cases h with
  | clo h => exact .clo h
  | own h => exact .own h
  | ptr h => exact .ptr h
  | ap h => exact .ap h
  | mp h => exact .mp h
  | g h => exact .g rfl (same _ (hg _ rfl))
  | tup h => exact absurd rfl (ht _)
  | fn h1 h2 => exact .fn rfl rfl (same _ (hf _ _ _ rfl).1) (same _ (hf _ _ _ rfl).2)
  | ifc h => exact absurd rfl (hi _ _)
  | tm h => exact absurd rfl (hm _)

/-- A contract about the first objects, with more behind them. -/
theorem RD.ext {P : Program} {f : FuncId} {args : List AV} {h0 : Hp} {R p : AV → Prop} (T : RD P f args h0 R p) (r : Hp) (ha : RnL id h0.length args args) (hh : ∀ (i : Nat) (o : Option Ob), h0[i]? = some o → ∃ o', o = some o' ∧ RnO id h0.length o' o') (hR : ∀ r, R r → Clo r) (hp : ∀ r, p r → Clo r) : RD P f args (h0 ++ r) R p :=
  RD.frame (σ := id) T ⟨fun i j _ _ e => e, fun i o ho => by
    obtain ⟨o', e, q⟩ := hh i o ho
    subst e
    exact ⟨o', o', rfl, by rw [id, List.getElem?_append_left (List.getElem?_eq_some_iff.1 ho).1]; exact ho, q⟩⟩ ha hR hp

/-- The cells of parameters. -/
def parC (x : Par) : List AV := [.v (.int .i64 x.n), .v (.int .u32 x.p), .v (.int .i64 x.r), .t x.ch.length 1 (x.ch.map fun (c : Nat) => .v (.int .u32 c)), .v (.int .u32 x.sp), .v (.int .i64 x.wt), .v (.int .u32 x.er)]
theorem parC_clo (x : Par) : ∀ a, a ∈ parC x → Clo a := by
  unfold parC
  simp only [Wv.BC]
def tyC (x : Par) (t : Int) : List AV := [.v (.int .i64 x.n), .v (.int .u32 x.p), .v (.int .i64 x.r), .t x.ch.length 1 (x.ch.map fun (c : Nat) => .v (.int .u32 c)), .v (.int .u32 x.sp), .v (.int .i64 x.wt), .v (.int .u32 x.er), .v (.int .i64 t), .mp 1]
/-- Names and their shapes. -/
abbrev Nms := List (ByteArray × Bool × Nat)
def shA (r : Bool × Nat) : AV := .g [.v (.bool r.1), .v (.int .i64 r.2)]
theorem shA_clo (r : Bool × Nat) : Clo (shA r) := by unfold shA; simp only [Wv.BC]
def nsE (ns : Nms) : List (Value × AV) := ns.map fun p => (.string p.1, shA p.2)
def hT (x : Par) (t : Int) (ns : Nms) : Hp := [some (.blk (tyC x t)), some (.map (nsE ns))]
theorem tyC_rn (x : Par) (t : Int) : RnL id 2 (tyC x t) (tyC x t) := by
  have h := parC_clo x
  unfold parC at h
  simp only [List.mem_cons, List.not_mem_nil, or_false, forall_eq_or_imp, forall_eq] at h
  obtain ⟨h1, h2, h3, h4, h5, h6, h7⟩ := h
  exact ⟨.clo h1, .clo h2, .clo h3, .clo h4, .clo h5, .clo h6, .clo h7, .clo (.v _), .mp (by omega), trivial⟩
theorem nsE_clo (ns : Nms) : ∀ a, a ∈ (nsE ns).map (·.2) → Clo a := by
  intro a ha
  unfold nsE at ha
  rw [List.map_map] at ha
  obtain ⟨p, _, rfl⟩ := List.mem_map.1 ha
  exact shA_clo _
theorem hT_rn (x : Par) (t : Int) (ns : Nms) : ∀ (i : Nat) (o : Option Ob), (hT x t ns)[i]? = some o → ∃ o', o = some o' ∧ RnO id (hT x t ns).length o' o' := by
  intro i o ho
  unfold hT at ho ⊢
  match i with
  | 0 => simp at ho; subst ho; exact ⟨_, rfl, tyC_rn x t⟩
  | 1 => simp at ho; subst ho; exact ⟨_, rfl, rfl, RnL.clo (nsE_clo ns)⟩
  | i + 2 => simp at ho
theorem tyC_lo (x : Par) (t : Int) : loL 2 (tyC x t) := by
  have h := parC_clo x
  unfold parC at h
  unfold loL tyC
  simp only [List.mem_cons, List.not_mem_nil, or_false, forall_eq_or_imp, forall_eq] at h ⊢
  obtain ⟨h1, h2, h3, h4, h5, h6, h7⟩ := h
  exact ⟨.clo h1, .clo h2, .clo h3, .clo h4, .clo h5, .clo h6, .clo h7, .clo (.v _), .mp (by omega)⟩
theorem hT_lo (x : Par) (t : Int) (ns : Nms) : loH (hT x t ns).length (hT x t ns) := ⟨tyC_lo x t, fun a ha => .clo (nsE_clo ns a ha), trivial⟩

/-- Is a number balanced? -/
def balB (t n : Int) : Bool := decide ((if 0 - n > n then 0 - n else n) ≤ (t - 1) / 2)
set_option maxHeartbeats 400000 in
set_option maxRecDepth 100000 in
theorem pbal_rd (x : Par) (t : Int) (ns : Nms) (n : Int) (hn : inB n = true) (ht : 1 ≤ t) (ht' : t ≤ 4611686018427387904) : RD Tryz.prog 212 [.ptr 0 0, .v (.int .i64 n)] (hT x t ns) (fun r => r = .v (.bool (balB t n))) (fun _ => False) := by
  have hn' : -4294967295 ≤ n ∧ n ≤ 4294967295 := by
    unfold inB at hn
    rw [Bool.and_eq_true] at hn
    exact ⟨of_decide_eq_true hn.1, of_decide_eq_true hn.2⟩
  refine RD.of ?_ (fun r q => q ▸ .clo (by simp only [Wv.BC])) (fun r q => q.elim) (hT_lo x t ns)
  unfold hT tyC
  refine Wv.HTP.by 16 [1, 0, 4] [(1000000, 2)] [.tmp 4] Tryz.func212 rfl rfl rfl ?base ?_
  case base => rfl
  have hq : (t - 1).tdiv 2 = (t - 1) / 2 := Int.tdiv_eq_ediv_of_nonneg (by omega)
  simp (disch := first | assumption | exact Wv.D | fail) only [Wv.B, simprocAttr, balB, hq]
/-- What a rule answers: by how much it is deeper, or the error. -/
def RuleC (x : Par) (t : Int) (ns : Nms) (fid : FuncId) (e : Ex) (unk : Nat) (o : Except Int Nat) : Prop :=
  RD Tryz.prog fid [.ptr 0 0, .g (exC e), .v (.int .i64 unk)] (hT x t ns) (fun r => ∃ d : Nat, o = .ok d ∧ r = .v (.int .i64 d)) (fun r => ∃ e, o = .error e ∧ r = stopA e)
theorem RuleC.of {x : Par} {t : Int} {ns : Nms} {fid : FuncId} {e : Ex} {unk : Nat} {o : Except Int Nat}
    (T : HTP Tryz.prog fid [.ptr 0 0, .g (exC e), .v (.int .i64 unk)] (hT x t ns) (fun r h' => (∃ d : Nat, o = .ok d ∧ r = .v (.int .i64 d)) ∧ h'.take 2 = hT x t ns) (fun r h' => (∃ e, o = .error e ∧ r = stopA e) ∧ h'.take 2 = hT x t ns)) : RuleC x t ns fid e unk o :=
  RD.of T (by rintro r ⟨d, _, rfl⟩; exact .clo (.v _)) (by rintro r ⟨e, _, rfl⟩; exact .clo (stop_clo e)) (hT_lo x t ns)
theorem RD.hT {x : Par} {t : Int} {ns : Nms} {f : FuncId} {args : List AV} {R p : AV → Prop} (T : RD Tryz.prog f (.ptr 0 0 :: args) (hT x t ns) R p) (r : Hp) (ha : ∀ (a : AV), a ∈ args → Clo a) (hR : ∀ r, R r → Clo r) (hp : ∀ r, p r → Clo r) : HTP Tryz.prog f (.ptr 0 0 :: args) (some (.blk (tyC x t)) :: some (.map (nsE ns)) :: r) (fun q h' => R q ∧ h' = some (.blk (tyC x t)) :: some (.map (nsE ns)) :: r) (fun q h' => p q ∧ h' = some (.blk (tyC x t)) :: some (.map (nsE ns)) :: r) :=
  RD.ext T r ⟨.ptr (by show 0 < 2; omega), RnL.clo ha⟩ (hT_rn x t ns) hR hp

theorem stop_close {h : Hp} {e : Int} : close3 h (stopA e) = some (stopA e, h) := rfl
set_option maxHeartbeats 400000 in
set_option maxRecDepth 100000 in
theorem pnumber_rule (x : Par) (t : Int) (ns : Nms) (k : Int) (s : ByteArray) (n : Int) (nl : Nat) (li : Nat → Int) (na : Nat) (ar : Nat → Ex) (unk : Nat) (hn : inB n = true) (ht : 1 ≤ t) (ht' : t ≤ 4611686018427387904) :
    RuleC x t ns 164 (.mk k s n nl li na ar) unk (if balB t n = true then .ok 0 else .error 233) := by
  refine RuleC.of ?_
  have T := pbal_rd x t ns n hn ht ht'
  generalize hb : balB t n = b at *
  rw [exC_mk]
  have hE := RD.hT T
  unfold hT tyC at *
  refine Wv.HTP.by 12 [1, 0, 4, 6] [(1000000, 2)] [.tmp 6] Tryz.func164 rfl rfl rfl ?base ?_
  case base => rfl
  simp (disch := first | assumption | exact Wv.D | fail) only [Wv.B, simprocAttr]
  refine call_HTP (fst := []) (cap := []) (hE _ (by simp only [Wv.BC]) (by rintro r rfl; simp only [Wv.BC]) (by rintro r h; exact h.elim)) ?_ (by rintro av h' ⟨h, _⟩; exact h.elim)
  rintro av h' ⟨rfl, rfl⟩
  simp (disch := first | assumption | exact Wv.D | fail) only [Wv.B, simprocAttr]
  refine call_HTP (fst := []) (cap := []) (demand_rd b 233) ?_ ?_
  · rintro av h' ⟨hb, rfl, rfl⟩
    subst hb
    simp (disch := first | assumption | exact Wv.D | fail) only [Wv.B, simprocAttr]
    exact ⟨0, rfl, rfl⟩
  · rintro av h' ⟨hb, rfl, rfl⟩
    subst hb
    simp (disch := first | assumption | exact Wv.D | fail) only [Wv.B, simprocAttr, stop_close]
    exact ⟨233, rfl, rfl⟩
set_option maxHeartbeats 400000 in
set_option maxRecDepth 100000 in
theorem pproduct_rule (x : Par) (t : Int) (ns : Nms) (e : Ex) (he : okE e) (unk : Nat) :
    RuleC x t ns 166 e unk (.ok (if unk < 2 then 0 else 1)) := by
  refine RuleC.of ?_
  obtain ⟨k, s, n, nl, li, na, ar, rfl⟩ := ok_mk he
  rw [exC_mk]
  unfold hT tyC at *
  refine Wv.HTP.by 9 [1, 2, 8, 6] [(1000000, 2)] [.tmp 6] Tryz.func166 rfl rfl rfl ?base ?_
  case base => rfl
  by_cases h : unk < 2
  · have h' : (unk : Int) < 2 := by omega
    simp (disch := first | assumption | exact Wv.D | fail) only [Wv.B, simprocAttr, decide_eq_true h', if_pos h]
    exact ⟨0, rfl, rfl⟩
  · have h' : ¬ (unk : Int) < 2 := by omega
    simp (disch := first | assumption | exact Wv.D | fail) only [Wv.B, simprocAttr, decide_eq_false h', if_neg h]
    exact ⟨1, rfl, rfl⟩
def powB (n : Int) : Bool := decide (1 ≤ n) && decide (n ≤ 64)
set_option maxHeartbeats 400000 in
set_option maxRecDepth 100000 in
theorem ppower_rule (x : Par) (t : Int) (ns : Nms) (k : Int) (s : ByteArray) (n : Int) (nl : Nat) (li : Nat → Int) (na : Nat) (ar : Nat → Ex) (unk : Nat) :
    RuleC x t ns 169 (.mk k s n nl li na ar) unk (if powB n = true then .ok (stepsN n) else .error 233) := by
  refine RuleC.of ?_
  rw [exC_mk]
  unfold hT tyC at *
  have hp : powB n = (decide (1 ≤ n) && decide (n ≤ 64)) := rfl
  generalize powB n = b at *
  refine Wv.HTP.by 19 [1, 4, 6] [(1000000, 2)] [.tmp 6] Tryz.func169 rfl rfl rfl ?base ?_
  case base => rfl
  have fin : ∀ (K : AV → Hp → Prop), K (.v (.bool b)) [] → K (.v (.bool b)) [] := fun _ h => h
  cases h1 : decide (1 ≤ n) <;> cases h2 : decide (n ≤ 64)
  all_goals
    rw [h1, h2] at hp
    simp (disch := first | assumption | exact Wv.D | fail) only [Wv.B, simprocAttr, h1, h2]
    refine call_HTP (fst := []) (cap := []) (demand_rd _ 233) ?_ ?_
    · rintro av h' ⟨hb, rfl, rfl⟩
      first
      | exact absurd hb (by decide)
      | (have h3 := of_decide_eq_true h2
         simp (disch := first | assumption | exact Wv.D | fail) only [Wv.B, simprocAttr]
         refine call_TC (psteps_tc n (by omega)) rfl (by simp only [Wv.BC]) (by simp only [Wv.BC]) ?_
         simp (disch := first | assumption | exact Wv.D | fail) only [Wv.B, simprocAttr, hp]
         exact ⟨_, rfl, rfl⟩)
    · rintro av h' ⟨hb, rfl, rfl⟩
      first
      | exact absurd hb (by decide)
      | (subst hp
         simp (disch := first | assumption | exact Wv.D | fail) only [Wv.B, simprocAttr, stop_close]
         exact ⟨233, rfl, rfl⟩)
end Go.Proofs.YtljfgdlgmdcmfaaGreat
