/- Typing: the degree of a table's polynomial; rules of tables and comparisons (the program's side). -/
import Derived.Test.YtljfgdlgmdcmfaaGreatTypY
import Derived.Test.YtljfgdlgmdcmfaaGreatPolB
import Derived.Test.YtljfgdlgmdcmfaaGreatMaE
import Derived.OrdersHeld
namespace Go.Proofs.YtljfgdlgmdcmfaaGreat
open Go.RowKit Wv
set_option linter.unusedVariables false
set_option linter.unusedSimpArgs false

theorem put_get {a : Act} {d : Nat} {v : Value} (j : Nat) (hd : d < a.tmps.size) : (a.put (some d) v).eval (.tmp j) = if d = j then v else a.eval (.tmp j) := by
  show (a.tmps.setIfInBounds d v).getD j undef = _
  rw [getD_set]
  by_cases e : d = j
  · subst e; rw [if_pos ⟨rfl, hd⟩, if_pos rfl]
  · rw [if_neg (fun h => e h.1), if_neg e]; rfl
theorem aput_size {a : Act} {d : Nat} {v : Value} : (a.put (some d) v).tmps.size = a.tmps.size := by
  show (a.tmps.setIfInBounds d v).size = _
  exact Array.size_setIfInBounds
/-- The values of a function as residues. -/
def resF (t : Nat) (f : Nat → Int) (v : Nat) : Nat := ((f v + t) % t).toNat
/-- The depth that the polynomial with some values needs. -/
def degS (t : Nat) (f : Nat → Int) : Nat := stepsN ((trimN (fun i => (interL t t id (resF t f)).1.getD i 0) (interL t t id (resF t f)).1.length - 1 : Nat) : Int)
theorem resF_eq {t : Nat} (ht : 0 < t) (f : Nat → Int) (v : Nat) : ((resF t f v : Nat) : Int) = (f v + t) % t := Int.toNat_of_nonneg (Int.emod_nonneg _ (by omega))
theorem resF_lt {t : Nat} (ht : 0 < t) (f : Nat → Int) (v : Nat) : resF t f v < t := by
  have h1 := resF_eq ht f v
  have h2 : (f v + t) % t < t := Int.emod_lt_of_pos _ (by omega)
  omega
def xiF (k i : Nat) : Nat := if i < k then i else 0
def yiF (t : Nat) (f : Nat → Int) (k i : Nat) : Nat := if i < k then resF t f i else 0
theorem xiF_zero (i : Nat) : xiF 0 i = 0 := if_neg (Nat.not_lt_zero _)
theorem yiF_zero (t : Nat) (f : Nat → Int) (i : Nat) : yiF t f 0 i = 0 := if_neg (Nat.not_lt_zero _)
theorem inter_len {t n : Nat} (h2 : 2 ≤ t) (xs ys : Nat → Nat) : (interL t n xs ys).1.length ≤ n := by
  unfold interL
  split
  · exact Nat.le_trans (trimL_len _) (newt_ok h2 xs ys n).2.2.1
  · exact Nat.zero_le _
theorem xiF_full {t : Nat} : (tab t fun i => AV.v (.int .u32 (xiF t i : Nat))) = tab t fun i => AV.v (.int .u32 (id i : Nat)) := tab_congr fun i hi => by unfold xiF; rw [if_pos hi]; rfl
theorem yiF_full {t : Nat} {f : Nat → Int} : (tab t fun i => AV.v (.int .u32 (yiF t f t i : Nat))) = tab t fun i => AV.v (.int .u32 (resF t f i : Nat)) := tab_congr fun i hi => by unfold yiF; rw [if_pos hi]
theorem xiF_next {t k : Nat} : (tab t fun i => if i = k then AV.v (.int .u32 (k : Nat)) else AV.v (.int .u32 (xiF k i : Nat))) = tab t fun i => AV.v (.int .u32 (xiF (k + 1) i : Nat)) := tab_congr fun i hi => by
  unfold xiF
  by_cases e : i = k
  · subst e; rw [if_pos rfl, if_pos (by omega)]
  · rw [if_neg e]
    by_cases h : i < k
    · rw [if_pos h, if_pos (by omega)]
    · rw [if_neg h, if_neg (by omega)]
theorem yiF_next {t k : Nat} {f : Nat → Int} : (tab t fun i => if i = k then AV.v (.int .u32 (resF t f k : Nat)) else AV.v (.int .u32 (yiF t f k i : Nat))) = tab t fun i => AV.v (.int .u32 (yiF t f (k + 1) i : Nat)) := tab_congr fun i hi => by
  unfold yiF
  by_cases e : i = k
  · subst e; rw [if_pos rfl, if_pos (by omega)]
  · rw [if_neg e]
    by_cases h : i < k
    · rw [if_pos h, if_pos (by omega)]
    · rw [if_neg h, if_neg (by omega)]
set_option maxHeartbeats 400000 in
set_option maxRecDepth 100000 in
theorem ptable1_ht {h : Hp} (k : Int) (s : ByteArray) (n : Int) (nl : Nat) (li : Nat → Int) (A : AV) (hA : Clo A) (hh : h[2]? = some (some (.blk [.v (.int .i64 k), .v (.string s), .v (.int .i64 n), .t nl 1 (tab nl fun i => .v (.int .i64 (li i))), A]))) (v : Nat) (hv : v < nl) (hn : nl ≤ 140737488351232) :
    HT Tryz.prog 217 [.v (.int .i64 v), .ptr 2 0] h (fun q h' => q = .v (.int .i64 (li v)) ∧ h' = h) := by
  refine Wv.HT.by 9 [1, 0, 3] [(1000000, h.length)] [.tmp 3] Tryz.func217 rfl rfl rfl ?base ?_
  case base => rfl
  simp (disch := first | assumption | exact Wv.D | fail) only [Wv.B, simprocAttr, hh]
set_option maxHeartbeats 400000 in
set_option maxRecDepth 100000 in
theorem pless1_ht {h : Hp} (k : Int) (s : ByteArray) (n : Int) (A B : AV) (hh : h[2]? = some (some (.blk [.v (.int .i64 k), .v (.string s), .v (.int .i64 n), A, B]))) (v : Nat) :
    HT Tryz.prog 218 [.v (.int .i64 v), .ptr 2 0] h (fun q h' => q = .v (.int .i64 (if (v : Int) < n then 1 else 0)) ∧ h' = h) := by
  refine Wv.HT.by 8 [0, 1, 7, 3] [(1000000, h.length)] [.tmp 3] Tryz.func218 rfl rfl rfl ?base ?_
  case base => rfl
  by_cases hv : (v : Int) < n
  · simp (disch := first | assumption | exact Wv.D | fail) only [Wv.B, simprocAttr, hh, decide_eq_true hv, if_pos hv]
  · simp (disch := first | assumption | exact Wv.D | fail) only [Wv.B, simprocAttr, hh, decide_eq_false hv, if_neg hv]
set_option maxHeartbeats 1600000 in
set_option maxRecDepth 100000 in
theorem pdegree_ht (x : Par) (t : Nat) (ns : Nms) (C : List AV) (fid : FuncId) (val : Nat → Int) (h2 : 2 ≤ t) (h256 : t ≤ 256)
    (hval : ∀ h : Hp, h[2]? = some (some (.blk C)) → ∀ v, v < t → HT Tryz.prog fid [.v (.int .i64 v), .ptr 2 0] h (fun q h' => q = .v (.int .i64 (val v)) ∧ h' = h)) (hlo : ∀ v, v < t → 0 ≤ val v + t) (hhi : ∀ v, v < t → val v ≤ 4294967295) :
    HT Tryz.prog 216 [.ptr 0 0, .fn (.func fid) [] [.ptr 2 0]] (hT x t ns ++ [(some (Ob.blk C) : Option Ob)]) (fun q h' => q = .v (.int .i64 (degS t val)) ∧ h'.take 3 = hT x t ns ++ [some (Ob.blk C)]) := by
  unfold hT tyC
  simp only [List.cons_append, List.nil_append]
  refine Wv.HT.by 74 [0, 5, 23, 22, 24, 7, 6, 1, 8, 10, 64, 71, 4] [(5, 20), (1000000, 3), (1, 1000000), (3000005, 24)] [.tmp 4] Tryz.func216 rfl rfl rfl ?base ?_
  case base => rfl
  simp (disch := first | assumption | exact Wv.D | fail) only [Wv.B, simprocAttr]
  intro X a hbs hh hX hE
  have hsz : a.tmps.size = 74 := hE.size
  have hp0 : Rep X (.ptr 0 0) (a.tmps.getD 0 undef) := hE.rep 0
  have hp1 : Rep X (.fn (.func fid) [] [.ptr 2 0]) (a.tmps.getD 1 undef) := hE.rep 1
  obtain ⟨b, hb, hv0⟩ : ∃ b, (X.m 0).1 = some b ∧ a.tmps.getD 0 undef = .pointer (some ⟨b, 0, none⟩) := by
    generalize a.tmps.getD 0 undef = q at hp0
    cases hp0 with
    | ptr hid hp => exact hp _ (by rw [hh]; rfl)
  obtain ⟨b', cvs, T, g1, g2, g3, g4, g5⟩ := hX.blk 0 _ (by rw [hh]; rfl)
  rw [hb] at g1
  injection g1 with g1
  subst g1
  have hcell : X.w.cell? ⟨b, 7, none⟩ = some (.int .i64 t) := by
    have e1 : cellAt X.w b 7 = cvs[7]? := cellAt_blk g2
    have hlt : 7 < cvs.size := by rw [g3]; show 7 < 9; decide
    have e2 := g5 7 (.v (.int .i64 t)) cvs[7] rfl (Array.getElem?_eq_getElem hlt)
    rw [Array.getElem?_eq_getElem hlt] at e1
    generalize cvs[7] = q at e1 e2
    cases e2
    exact e1
  obtain ⟨Y0, y1, y2, y3, y4⟩ := drawn_up hX
  have hcell0 : Y0.w.cell? ⟨b, 7, none⟩ = some (.int .i64 t) := by rw [y1]; exact hcell
  have hmA : makeA Tryz.prog 23 (t : Int) (t : Int) = some (22, 1, tab t fun i => .v (.int .u32 0)) := by
    simp (disch := first | assumption | exact Wv.D | fail) only [Wv.B, simprocAttr]
  have hmk : ∀ (Y : Cx), Ok Y → ∃ v Z, (Instr.makeSlice 23 (.int .i64 t) (.int .i64 t)).run Tryz.prog Y.w = .ok v Z.w ∧ Step Y Z ∧ Ok Z ∧ Rep Z (.own Y.h.length (t : Int).toNat) v ∧ Z.h = Y.h ++ [some (.arr 22 1 (tab t fun i => .v (.int .u32 0)) 0)] := fun Y hY => make_ok hY hmA
  have cellT : ∀ (Y : Cx), Ok Y → Step X Y → X.h <+: Y.h → Y.w.cell? ⟨b, 7, none⟩ = some (.int .i64 t) := fun Y hY S hpre => by
    have h0 : Y.h[0]? = X.h[0]? := by
      obtain ⟨r, hr⟩ := hpre
      rw [← hr, List.getElem?_append_left (by rw [hh]; exact Nat.zero_lt_succ _)]
    have h1 : X.h[0]? = some (some (.blk [.v (.int .i64 x.n), .v (.int .u32 x.p), .v (.int .i64 x.r), .t x.ch.length 1 (x.ch.map fun (c : Nat) => .v (.int .u32 c)), .v (.int .u32 x.sp), .v (.int .i64 x.wt), .v (.int .u32 x.er), .v (.int .i64 t), .mp 1])) := by rw [hh]; rfl
    obtain ⟨c', q1, q2⟩ := S.oblk 0 _ (by rw [hh]; exact Nat.zero_lt_succ _) (h0.trans h1)
    obtain ⟨b', cvs, T, g1, g2, g3, g4, g5⟩ := hY.blk 0 _ (h0.trans h1)
    rw [q2, hb] at g1
    injection g1 with g1
    subst g1
    have e1 : cellAt Y.w b 7 = cvs[7]? := cellAt_blk g2
    have hlt : 7 < cvs.size := by rw [g3]; show 7 < 9; decide
    have e2 := g5 7 (.v (.int .i64 t)) cvs[7] rfl (Array.getElem?_eq_getElem hlt)
    rw [Array.getElem?_eq_getElem hlt] at e1
    generalize cvs[7] = q at e1 e2
    cases e2
    exact e1
  obtain ⟨EE, hEE⟩ : ∃ EE : Nat → Nat → Ev, EE = fun i j => [(0, .ptr 0 0), (1, .fn (.func fid) [] [.ptr 2 0]), (4, .v (.int .i64 0)), (5, .own i t), (6, .own j t)] := ⟨_, rfl⟩
  have hp4 : Rep X (.v (.int .i64 0)) (a.tmps.getD 4 undef) := hE.rep 4
  have htn : (t : Int).toNat = t := Int.toNat_natCast t
  refine wp_mono (wp_region_held (S := fun w => w.cell? ⟨b, 7, none⟩ = some (.int .i64 t)) (Q := fun ex a' w' => ex = .normal ∧ ∃ (Y : Cx) (i j : Nat), Y.w = w' ∧ Step X Y ∧ Ok Y ∧ EnvOk Y 74 (EE i j) a' ∧ Y.h = X.h ++ [some (.arr 22 1 (tab t fun i => .v (.int .u32 0)) 0), some (.arr 22 1 (tab t fun i => .v (.int .u32 0)) 0)] ∧ ((i = 3 ∧ j = 4) ∨ (i = 4 ∧ j = 3))) (by kernel_rfl) ?_) ?_
  · rw [← y1]
    have da : a.defers = a.defers := rfl
    have sa : a.tmps.size = 74 := hsz
    have ea_0 : a.eval (.tmp 0) = .pointer (some ⟨b, 0, none⟩) := hv0
    have ka_1 : a.eval (.tmp 1) = a.eval (.tmp 1) := rfl
    have ka_4 : a.eval (.tmp 4) = a.eval (.tmp 4) := rfl
    refine wpAnyH_take (i := 0) (v := .pointer (some ⟨b, 0, none⟩)) rfl (by kernel_rfl) (by kernel_rfl) (by kernel_rfl) (fun _ _ _ h => by cases h.1) (.inl ⟨rfl, fun w hw => ?y0⟩) hcell0 ?_
    case y0 =>
      have hw' : w.cell? ⟨b, 7, none⟩ = some (.int .i64 t) := hw
      have e' := ea_0
      simp only [Act.eval, Array.getD_eq_getD_getElem?] at e'
      simp [execOp, go_sem, e', hw']
    generalize hA0 : a.put _ _ = A0
    have sA0 : A0.tmps.size = 74 := by rw [← hA0]; exact aput_size.trans sa
    have gA0 : ∀ j, A0.eval (.tmp j) = if 11 = j then .pointer (some ⟨b, 0, none⟩) else a.eval (.tmp j) := fun j => by rw [← hA0]; exact put_get j (by rw [sa]; decide)
    have dA0 : A0.defers = a.defers := by rw [← hA0]; exact da
    have eA0_0 : A0.eval (.tmp 0) = .pointer (some ⟨b, 0, none⟩) := (gA0 _).trans ((if_neg (by decide)).trans ea_0)
    have eA0_11 : A0.eval (.tmp 11) = .pointer (some ⟨b, 0, none⟩) := (gA0 _).trans (if_pos rfl)
    have kA0_1 : A0.eval (.tmp 1) = a.eval (.tmp 1) := (gA0 _).trans ((if_neg (by decide)).trans ka_1)
    have kA0_4 : A0.eval (.tmp 4) = a.eval (.tmp 4) := (gA0 _).trans ((if_neg (by decide)).trans ka_4)
    clear hA0 gA0
    refine wpAnyH_take (i := 1) (v := .pointer (some ⟨b, 0, none⟩)) rfl (by kernel_rfl) (by kernel_rfl) (by kernel_rfl) (fun _ _ _ h => by cases h.1) (.inl ⟨rfl, fun w hw => ?y1⟩) hcell0 ?_
    case y1 =>
      have hw' : w.cell? ⟨b, 7, none⟩ = some (.int .i64 t) := hw
      have e' := eA0_11
      simp only [Act.eval, Array.getD_eq_getD_getElem?] at e'
      simp [execOp, go_sem, e', hw']
    generalize hA1 : A0.put _ _ = A1
    have sA1 : A1.tmps.size = 74 := by rw [← hA1]; exact aput_size.trans sA0
    have gA1 : ∀ j, A1.eval (.tmp j) = if 12 = j then .pointer (some ⟨b, 0, none⟩) else A0.eval (.tmp j) := fun j => by rw [← hA1]; exact put_get j (by rw [sA0]; decide)
    have dA1 : A1.defers = a.defers := by rw [← hA1]; exact dA0
    have eA1_0 : A1.eval (.tmp 0) = .pointer (some ⟨b, 0, none⟩) := (gA1 _).trans ((if_neg (by decide)).trans eA0_0)
    have eA1_12 : A1.eval (.tmp 12) = .pointer (some ⟨b, 0, none⟩) := (gA1 _).trans (if_pos rfl)
    have kA1_1 : A1.eval (.tmp 1) = a.eval (.tmp 1) := (gA1 _).trans ((if_neg (by decide)).trans kA0_1)
    have kA1_4 : A1.eval (.tmp 4) = a.eval (.tmp 4) := (gA1 _).trans ((if_neg (by decide)).trans kA0_4)
    clear hA1 gA1
    refine wpAnyH_take (i := 2) (v := .pointer (some ⟨b, 7, none⟩)) rfl (by kernel_rfl) (by kernel_rfl) (by kernel_rfl) (fun _ _ _ h => by cases h.1) (.inl ⟨rfl, fun w hw => ?y2⟩) hcell0 ?_
    case y2 =>
      have hw' : w.cell? ⟨b, 7, none⟩ = some (.int .i64 t) := hw
      have e' := eA1_12
      simp only [Act.eval, Array.getD_eq_getD_getElem?] at e'
      simp [execOp, go_sem, e', hw']
    generalize hA2 : A1.put _ _ = A2
    have sA2 : A2.tmps.size = 74 := by rw [← hA2]; exact aput_size.trans sA1
    have gA2 : ∀ j, A2.eval (.tmp j) = if 13 = j then .pointer (some ⟨b, 7, none⟩) else A1.eval (.tmp j) := fun j => by rw [← hA2]; exact put_get j (by rw [sA1]; decide)
    have dA2 : A2.defers = a.defers := by rw [← hA2]; exact dA1
    have eA2_0 : A2.eval (.tmp 0) = .pointer (some ⟨b, 0, none⟩) := (gA2 _).trans ((if_neg (by decide)).trans eA1_0)
    have eA2_13 : A2.eval (.tmp 13) = .pointer (some ⟨b, 7, none⟩) := (gA2 _).trans (if_pos rfl)
    have kA2_1 : A2.eval (.tmp 1) = a.eval (.tmp 1) := (gA2 _).trans ((if_neg (by decide)).trans kA1_1)
    have kA2_4 : A2.eval (.tmp 4) = a.eval (.tmp 4) := (gA2 _).trans ((if_neg (by decide)).trans kA1_4)
    clear hA2 gA2
    refine wpAnyH_take (i := 3) (v := .int .i64 t) rfl (by kernel_rfl) (by kernel_rfl) (by kernel_rfl) (fun _ _ _ h => by cases h.1) (.inl ⟨rfl, fun w hw => ?y3⟩) hcell0 ?_
    case y3 =>
      have hw' : w.cell? ⟨b, 7, none⟩ = some (.int .i64 t) := hw
      have e' := eA2_13
      simp only [Act.eval, Array.getD_eq_getD_getElem?] at e'
      simp [execOp, go_sem, e', hw']
    generalize hA3 : A2.put _ _ = A3
    have sA3 : A3.tmps.size = 74 := by rw [← hA3]; exact aput_size.trans sA2
    have gA3 : ∀ j, A3.eval (.tmp j) = if 14 = j then .int .i64 t else A2.eval (.tmp j) := fun j => by rw [← hA3]; exact put_get j (by rw [sA2]; decide)
    have dA3 : A3.defers = a.defers := by rw [← hA3]; exact dA2
    have eA3_0 : A3.eval (.tmp 0) = .pointer (some ⟨b, 0, none⟩) := (gA3 _).trans ((if_neg (by decide)).trans eA2_0)
    have eA3_14 : A3.eval (.tmp 14) = .int .i64 t := (gA3 _).trans (if_pos rfl)
    have kA3_1 : A3.eval (.tmp 1) = a.eval (.tmp 1) := (gA3 _).trans ((if_neg (by decide)).trans kA2_1)
    have kA3_4 : A3.eval (.tmp 4) = a.eval (.tmp 4) := (gA3 _).trans ((if_neg (by decide)).trans kA2_4)
    clear hA3 gA3
    refine wpAnyH_take (i := 5) (v := .pointer (some ⟨b, 0, none⟩)) rfl (by kernel_rfl) (by kernel_rfl) (by kernel_rfl) (fun _ _ _ h => by cases h.1) (.inl ⟨rfl, fun w hw => ?y5⟩) hcell0 ?_
    case y5 =>
      have hw' : w.cell? ⟨b, 7, none⟩ = some (.int .i64 t) := hw
      have e' := eA3_0
      simp only [Act.eval, Array.getD_eq_getD_getElem?] at e'
      simp [execOp, go_sem, e', hw']
    generalize hA4 : A3.put _ _ = A4
    have sA4 : A4.tmps.size = 74 := by rw [← hA4]; exact aput_size.trans sA3
    have gA4 : ∀ j, A4.eval (.tmp j) = if 16 = j then .pointer (some ⟨b, 0, none⟩) else A3.eval (.tmp j) := fun j => by rw [← hA4]; exact put_get j (by rw [sA3]; decide)
    have dA4 : A4.defers = a.defers := by rw [← hA4]; exact dA3
    have eA4_0 : A4.eval (.tmp 0) = .pointer (some ⟨b, 0, none⟩) := (gA4 _).trans ((if_neg (by decide)).trans eA3_0)
    have eA4_14 : A4.eval (.tmp 14) = .int .i64 t := (gA4 _).trans ((if_neg (by decide)).trans eA3_14)
    have eA4_16 : A4.eval (.tmp 16) = .pointer (some ⟨b, 0, none⟩) := (gA4 _).trans (if_pos rfl)
    have kA4_1 : A4.eval (.tmp 1) = a.eval (.tmp 1) := (gA4 _).trans ((if_neg (by decide)).trans kA3_1)
    have kA4_4 : A4.eval (.tmp 4) = a.eval (.tmp 4) := (gA4 _).trans ((if_neg (by decide)).trans kA3_4)
    clear hA4 gA4
    refine wpAnyH_take (i := 6) (v := .pointer (some ⟨b, 0, none⟩)) rfl (by kernel_rfl) (by kernel_rfl) (by kernel_rfl) (fun _ _ _ h => by cases h.1) (.inl ⟨rfl, fun w hw => ?y6⟩) hcell0 ?_
    case y6 =>
      have hw' : w.cell? ⟨b, 7, none⟩ = some (.int .i64 t) := hw
      have e' := eA4_16
      simp only [Act.eval, Array.getD_eq_getD_getElem?] at e'
      simp [execOp, go_sem, e', hw']
    generalize hA5 : A4.put _ _ = A5
    have sA5 : A5.tmps.size = 74 := by rw [← hA5]; exact aput_size.trans sA4
    have gA5 : ∀ j, A5.eval (.tmp j) = if 17 = j then .pointer (some ⟨b, 0, none⟩) else A4.eval (.tmp j) := fun j => by rw [← hA5]; exact put_get j (by rw [sA4]; decide)
    have dA5 : A5.defers = a.defers := by rw [← hA5]; exact dA4
    have eA5_0 : A5.eval (.tmp 0) = .pointer (some ⟨b, 0, none⟩) := (gA5 _).trans ((if_neg (by decide)).trans eA4_0)
    have eA5_14 : A5.eval (.tmp 14) = .int .i64 t := (gA5 _).trans ((if_neg (by decide)).trans eA4_14)
    have eA5_17 : A5.eval (.tmp 17) = .pointer (some ⟨b, 0, none⟩) := (gA5 _).trans (if_pos rfl)
    have kA5_1 : A5.eval (.tmp 1) = a.eval (.tmp 1) := (gA5 _).trans ((if_neg (by decide)).trans kA4_1)
    have kA5_4 : A5.eval (.tmp 4) = a.eval (.tmp 4) := (gA5 _).trans ((if_neg (by decide)).trans kA4_4)
    clear hA5 gA5
    refine wpAnyH_take (i := 7) (v := .pointer (some ⟨b, 7, none⟩)) rfl (by kernel_rfl) (by kernel_rfl) (by kernel_rfl) (fun _ _ _ h => by cases h.1) (.inl ⟨rfl, fun w hw => ?y7⟩) hcell0 ?_
    case y7 =>
      have hw' : w.cell? ⟨b, 7, none⟩ = some (.int .i64 t) := hw
      have e' := eA5_17
      simp only [Act.eval, Array.getD_eq_getD_getElem?] at e'
      simp [execOp, go_sem, e', hw']
    generalize hA6 : A5.put _ _ = A6
    have sA6 : A6.tmps.size = 74 := by rw [← hA6]; exact aput_size.trans sA5
    have gA6 : ∀ j, A6.eval (.tmp j) = if 18 = j then .pointer (some ⟨b, 7, none⟩) else A5.eval (.tmp j) := fun j => by rw [← hA6]; exact put_get j (by rw [sA5]; decide)
    have dA6 : A6.defers = a.defers := by rw [← hA6]; exact dA5
    have eA6_0 : A6.eval (.tmp 0) = .pointer (some ⟨b, 0, none⟩) := (gA6 _).trans ((if_neg (by decide)).trans eA5_0)
    have eA6_14 : A6.eval (.tmp 14) = .int .i64 t := (gA6 _).trans ((if_neg (by decide)).trans eA5_14)
    have eA6_18 : A6.eval (.tmp 18) = .pointer (some ⟨b, 7, none⟩) := (gA6 _).trans (if_pos rfl)
    have kA6_1 : A6.eval (.tmp 1) = a.eval (.tmp 1) := (gA6 _).trans ((if_neg (by decide)).trans kA5_1)
    have kA6_4 : A6.eval (.tmp 4) = a.eval (.tmp 4) := (gA6 _).trans ((if_neg (by decide)).trans kA5_4)
    clear hA6 gA6
    refine wpAnyH_take (i := 8) (v := .int .i64 t) rfl (by kernel_rfl) (by kernel_rfl) (by kernel_rfl) (fun _ _ _ h => by cases h.1) (.inl ⟨rfl, fun w hw => ?y8⟩) hcell0 ?_
    case y8 =>
      have hw' : w.cell? ⟨b, 7, none⟩ = some (.int .i64 t) := hw
      have e' := eA6_18
      simp only [Act.eval, Array.getD_eq_getD_getElem?] at e'
      simp [execOp, go_sem, e', hw']
    generalize hA7 : A6.put _ _ = A7
    have sA7 : A7.tmps.size = 74 := by rw [← hA7]; exact aput_size.trans sA6
    have gA7 : ∀ j, A7.eval (.tmp j) = if 19 = j then .int .i64 t else A6.eval (.tmp j) := fun j => by rw [← hA7]; exact put_get j (by rw [sA6]; decide)
    have dA7 : A7.defers = a.defers := by rw [← hA7]; exact dA6
    have eA7_0 : A7.eval (.tmp 0) = .pointer (some ⟨b, 0, none⟩) := (gA7 _).trans ((if_neg (by decide)).trans eA6_0)
    have eA7_14 : A7.eval (.tmp 14) = .int .i64 t := (gA7 _).trans ((if_neg (by decide)).trans eA6_14)
    have eA7_19 : A7.eval (.tmp 19) = .int .i64 t := (gA7 _).trans (if_pos rfl)
    have kA7_1 : A7.eval (.tmp 1) = a.eval (.tmp 1) := (gA7 _).trans ((if_neg (by decide)).trans kA6_1)
    have kA7_4 : A7.eval (.tmp 4) = a.eval (.tmp 4) := (gA7 _).trans ((if_neg (by decide)).trans kA6_4)
    clear hA7 gA7
    refine wpAnyH_all (rs := [4, 9]) (by kernel_rfl) (by decide) ?_
    intro i hi
    have hi' : i = 4 ∨ i = 9 := by simpa using hi
    clear hi
    obtain ⟨v1, Z1, r1, S1, ok1, rep1, hz1⟩ := hmk Y0 y4
    have St1 := y3.trans hX S1
    have c1 := cellT Z1 ok1 St1 ⟨_, by rw [hz1, y2]⟩
    rcases hi' with rfl | rfl
    · refine wpOp_val rfl rfl (v := v1) (w' := Z1.w) ?_ ⟨c1, ?_⟩
      · have e' := eA7_14
        simp only [Act.eval, Array.getD_eq_getD_getElem?] at e'
        simp [execOp, Act.eval, e', r1]
      generalize hB1 : A7.put _ _ = B1
      have sB1 : B1.tmps.size = 74 := by rw [← hB1]; exact aput_size.trans sA7
      have gB1 : ∀ j, B1.eval (.tmp j) = if 15 = j then v1 else A7.eval (.tmp j) := fun j => by rw [← hB1]; exact put_get j (by rw [sA7]; decide)
      have dB1 : B1.defers = a.defers := by rw [← hB1]; exact dA7
      have eB1_0 : B1.eval (.tmp 0) = .pointer (some ⟨b, 0, none⟩) := (gB1 _).trans ((if_neg (by decide)).trans eA7_0)
      have eB1_14 : B1.eval (.tmp 14) = .int .i64 t := (gB1 _).trans ((if_neg (by decide)).trans eA7_14)
      have eB1_19 : B1.eval (.tmp 19) = .int .i64 t := (gB1 _).trans ((if_neg (by decide)).trans eA7_19)
      have eB1_15 : B1.eval (.tmp 15) = v1 := (gB1 _).trans (if_pos rfl)
      have kB1_1 : B1.eval (.tmp 1) = a.eval (.tmp 1) := (gB1 _).trans ((if_neg (by decide)).trans kA7_1)
      have kB1_4 : B1.eval (.tmp 4) = a.eval (.tmp 4) := (gB1 _).trans ((if_neg (by decide)).trans kA7_4)
      clear hB1 gB1
      refine wpAnyH_take (i := 10) (v := v1) rfl (by kernel_rfl) (by kernel_rfl) (by kernel_rfl) (fun _ _ _ h => by cases h.1) (.inl ⟨rfl, fun w hw => ?z1⟩) c1 ?_
      case z1 =>
        have e' := eB1_15
        simp only [Act.eval, Array.getD_eq_getD_getElem?] at e'
        simp [execOp, go_sem, Act.eval, e']
      generalize hB2 : B1.put _ _ = B2
      have sB2 : B2.tmps.size = 74 := by rw [← hB2]; exact aput_size.trans sB1
      have gB2 : ∀ j, B2.eval (.tmp j) = if 5 = j then v1 else B1.eval (.tmp j) := fun j => by rw [← hB2]; exact put_get j (by rw [sB1]; decide)
      have dB2 : B2.defers = a.defers := by rw [← hB2]; exact dB1
      have eB2_0 : B2.eval (.tmp 0) = .pointer (some ⟨b, 0, none⟩) := (gB2 _).trans ((if_neg (by decide)).trans eB1_0)
      have eB2_14 : B2.eval (.tmp 14) = .int .i64 t := (gB2 _).trans ((if_neg (by decide)).trans eB1_14)
      have eB2_19 : B2.eval (.tmp 19) = .int .i64 t := (gB2 _).trans ((if_neg (by decide)).trans eB1_19)
      have eB2_15 : B2.eval (.tmp 15) = v1 := (gB2 _).trans ((if_neg (by decide)).trans eB1_15)
      have eB2_5 : B2.eval (.tmp 5) = v1 := (gB2 _).trans (if_pos rfl)
      have kB2_1 : B2.eval (.tmp 1) = a.eval (.tmp 1) := (gB2 _).trans ((if_neg (by decide)).trans kB1_1)
      have kB2_4 : B2.eval (.tmp 4) = a.eval (.tmp 4) := (gB2 _).trans ((if_neg (by decide)).trans kB1_4)
      clear hB2 gB2
      refine wpAnyH_all (rs := [9]) (by kernel_rfl) (by decide) ?_
      intro i hi
      rw [List.mem_singleton] at hi
      subst hi
      obtain ⟨v2, Z2, r2, S2, ok2, rep2, hz2⟩ := hmk Z1 ok1
      have St2 := St1.trans hX S2
      have c2 := cellT Z2 ok2 St2 ⟨_, by rw [hz2, hz1, y2, List.append_assoc]⟩
      refine wpOp_val rfl rfl (v := v2) (w' := Z2.w) ?_ ⟨c2, ?_⟩
      · have e' := eB2_19
        simp only [Act.eval, Array.getD_eq_getD_getElem?] at e'
        simp [execOp, Act.eval, e', r2]
      generalize hB3 : B2.put _ _ = B3
      have sB3 : B3.tmps.size = 74 := by rw [← hB3]; exact aput_size.trans sB2
      have gB3 : ∀ j, B3.eval (.tmp j) = if 20 = j then v2 else B2.eval (.tmp j) := fun j => by rw [← hB3]; exact put_get j (by rw [sB2]; decide)
      have dB3 : B3.defers = a.defers := by rw [← hB3]; exact dB2
      have eB3_0 : B3.eval (.tmp 0) = .pointer (some ⟨b, 0, none⟩) := (gB3 _).trans ((if_neg (by decide)).trans eB2_0)
      have eB3_14 : B3.eval (.tmp 14) = .int .i64 t := (gB3 _).trans ((if_neg (by decide)).trans eB2_14)
      have eB3_19 : B3.eval (.tmp 19) = .int .i64 t := (gB3 _).trans ((if_neg (by decide)).trans eB2_19)
      have eB3_15 : B3.eval (.tmp 15) = v1 := (gB3 _).trans ((if_neg (by decide)).trans eB2_15)
      have eB3_5 : B3.eval (.tmp 5) = v1 := (gB3 _).trans ((if_neg (by decide)).trans eB2_5)
      have eB3_20 : B3.eval (.tmp 20) = v2 := (gB3 _).trans (if_pos rfl)
      have kB3_1 : B3.eval (.tmp 1) = a.eval (.tmp 1) := (gB3 _).trans ((if_neg (by decide)).trans kB2_1)
      have kB3_4 : B3.eval (.tmp 4) = a.eval (.tmp 4) := (gB3 _).trans ((if_neg (by decide)).trans kB2_4)
      clear hB3 gB3
      refine wpAnyH_take (i := 11) (v := v2) rfl (by kernel_rfl) (by kernel_rfl) (by kernel_rfl) (fun _ _ _ h => by cases h.1) (.inl ⟨rfl, fun w hw => ?z2⟩) c2 ?_
      case z2 =>
        have e' := eB3_20
        simp only [Act.eval, Array.getD_eq_getD_getElem?] at e'
        simp [execOp, go_sem, Act.eval, e']
      generalize hB5 : B3.put _ _ = B5
      have sB5 : B5.tmps.size = 74 := by rw [← hB5]; exact aput_size.trans sB3
      have gB5 : ∀ j, B5.eval (.tmp j) = if 6 = j then v2 else B3.eval (.tmp j) := fun j => by rw [← hB5]; exact put_get j (by rw [sB3]; decide)
      have dB5 : B5.defers = a.defers := by rw [← hB5]; exact dB3
      have eB5_0 : B5.eval (.tmp 0) = .pointer (some ⟨b, 0, none⟩) := (gB5 _).trans ((if_neg (by decide)).trans eB3_0)
      have eB5_14 : B5.eval (.tmp 14) = .int .i64 t := (gB5 _).trans ((if_neg (by decide)).trans eB3_14)
      have eB5_19 : B5.eval (.tmp 19) = .int .i64 t := (gB5 _).trans ((if_neg (by decide)).trans eB3_19)
      have eB5_15 : B5.eval (.tmp 15) = v1 := (gB5 _).trans ((if_neg (by decide)).trans eB3_15)
      have eB5_5 : B5.eval (.tmp 5) = v1 := (gB5 _).trans ((if_neg (by decide)).trans eB3_5)
      have eB5_20 : B5.eval (.tmp 20) = v2 := (gB5 _).trans ((if_neg (by decide)).trans eB3_20)
      have eB5_6 : B5.eval (.tmp 6) = v2 := (gB5 _).trans (if_pos rfl)
      have kB5_1 : B5.eval (.tmp 1) = a.eval (.tmp 1) := (gB5 _).trans ((if_neg (by decide)).trans kB3_1)
      have kB5_4 : B5.eval (.tmp 4) = a.eval (.tmp 4) := (gB5 _).trans ((if_neg (by decide)).trans kB3_4)
      clear hB5 gB5
      refine wpAnyH_done (by kernel_rfl) ⟨rfl, Z2, 3, 4, rfl, St2, ok2, ⟨dB5.trans (hE.defers.trans St2.dse.symm), sB5, ?_⟩, ?_, ?_⟩ _
      · intro d
        rw [hEE]
        rcases getE_in [(0, .ptr 0 0), (1, .fn (.func fid) [] [.ptr 2 0]), (4, .v (.int .i64 0)), (5, .own 3 t), (6, .own 4 t)] d with q | ⟨y, q1, q2, q3⟩
        · rw [q]; exact .none _
        · rw [q3]
          show Rep Z2 y.2 (B5.eval (.tmp d))
          simp only [List.mem_cons, List.not_mem_nil, or_false] at q1
          rcases q1 with rfl | rfl | rfl | rfl | rfl <;> (simp only at q2; subst q2)
          · rw [eB5_0, ← ea_0]; exact hp0.mono St2
          · rw [kB5_1]; exact hp1.mono St2
          · rw [kB5_4]; exact hp4.mono St2
          · rw [eB5_5]; have h3 := (rep1.mono S2); simpa [hz1, y2, hh, htn] using h3
          · rw [eB5_6]; have h3 := rep2; simpa [hz1, y2, hh, htn] using h3
      · rw [hz2, hz1, y2, List.append_assoc]; rfl
      · exact .inl ⟨rfl, rfl⟩
    · refine wpOp_val rfl rfl (v := v1) (w' := Z1.w) ?_ ⟨c1, ?_⟩
      · have e' := eA7_19
        simp only [Act.eval, Array.getD_eq_getD_getElem?] at e'
        simp [execOp, Act.eval, e', r1]
      generalize hB1 : A7.put _ _ = B1
      have sB1 : B1.tmps.size = 74 := by rw [← hB1]; exact aput_size.trans sA7
      have gB1 : ∀ j, B1.eval (.tmp j) = if 20 = j then v1 else A7.eval (.tmp j) := fun j => by rw [← hB1]; exact put_get j (by rw [sA7]; decide)
      have dB1 : B1.defers = a.defers := by rw [← hB1]; exact dA7
      have eB1_0 : B1.eval (.tmp 0) = .pointer (some ⟨b, 0, none⟩) := (gB1 _).trans ((if_neg (by decide)).trans eA7_0)
      have eB1_14 : B1.eval (.tmp 14) = .int .i64 t := (gB1 _).trans ((if_neg (by decide)).trans eA7_14)
      have eB1_19 : B1.eval (.tmp 19) = .int .i64 t := (gB1 _).trans ((if_neg (by decide)).trans eA7_19)
      have eB1_20 : B1.eval (.tmp 20) = v1 := (gB1 _).trans (if_pos rfl)
      have kB1_1 : B1.eval (.tmp 1) = a.eval (.tmp 1) := (gB1 _).trans ((if_neg (by decide)).trans kA7_1)
      have kB1_4 : B1.eval (.tmp 4) = a.eval (.tmp 4) := (gB1 _).trans ((if_neg (by decide)).trans kA7_4)
      clear hB1 gB1
      refine wpAnyH_all (rs := [4]) (by kernel_rfl) (by decide) ?_
      intro i hi
      rw [List.mem_singleton] at hi
      subst hi
      obtain ⟨v2, Z2, r2, S2, ok2, rep2, hz2⟩ := hmk Z1 ok1
      have St2 := St1.trans hX S2
      have c2 := cellT Z2 ok2 St2 ⟨_, by rw [hz2, hz1, y2, List.append_assoc]⟩
      refine wpOp_val rfl rfl (v := v2) (w' := Z2.w) ?_ ⟨c2, ?_⟩
      · have e' := eB1_14
        simp only [Act.eval, Array.getD_eq_getD_getElem?] at e'
        simp [execOp, Act.eval, e', r2]
      generalize hB3 : B1.put _ _ = B3
      have sB3 : B3.tmps.size = 74 := by rw [← hB3]; exact aput_size.trans sB1
      have gB3 : ∀ j, B3.eval (.tmp j) = if 15 = j then v2 else B1.eval (.tmp j) := fun j => by rw [← hB3]; exact put_get j (by rw [sB1]; decide)
      have dB3 : B3.defers = a.defers := by rw [← hB3]; exact dB1
      have eB3_0 : B3.eval (.tmp 0) = .pointer (some ⟨b, 0, none⟩) := (gB3 _).trans ((if_neg (by decide)).trans eB1_0)
      have eB3_14 : B3.eval (.tmp 14) = .int .i64 t := (gB3 _).trans ((if_neg (by decide)).trans eB1_14)
      have eB3_19 : B3.eval (.tmp 19) = .int .i64 t := (gB3 _).trans ((if_neg (by decide)).trans eB1_19)
      have eB3_20 : B3.eval (.tmp 20) = v1 := (gB3 _).trans ((if_neg (by decide)).trans eB1_20)
      have eB3_15 : B3.eval (.tmp 15) = v2 := (gB3 _).trans (if_pos rfl)
      have kB3_1 : B3.eval (.tmp 1) = a.eval (.tmp 1) := (gB3 _).trans ((if_neg (by decide)).trans kB1_1)
      have kB3_4 : B3.eval (.tmp 4) = a.eval (.tmp 4) := (gB3 _).trans ((if_neg (by decide)).trans kB1_4)
      clear hB3 gB3
      refine wpAnyH_take (i := 10) (v := v2) rfl (by kernel_rfl) (by kernel_rfl) (by kernel_rfl) (fun _ _ _ h => by cases h.1) (.inl ⟨rfl, fun w hw => ?z1⟩) c2 ?_
      case z1 =>
        have e' := eB3_15
        simp only [Act.eval, Array.getD_eq_getD_getElem?] at e'
        simp [execOp, go_sem, Act.eval, e']
      generalize hB4 : B3.put _ _ = B4
      have sB4 : B4.tmps.size = 74 := by rw [← hB4]; exact aput_size.trans sB3
      have gB4 : ∀ j, B4.eval (.tmp j) = if 5 = j then v2 else B3.eval (.tmp j) := fun j => by rw [← hB4]; exact put_get j (by rw [sB3]; decide)
      have dB4 : B4.defers = a.defers := by rw [← hB4]; exact dB3
      have eB4_0 : B4.eval (.tmp 0) = .pointer (some ⟨b, 0, none⟩) := (gB4 _).trans ((if_neg (by decide)).trans eB3_0)
      have eB4_14 : B4.eval (.tmp 14) = .int .i64 t := (gB4 _).trans ((if_neg (by decide)).trans eB3_14)
      have eB4_19 : B4.eval (.tmp 19) = .int .i64 t := (gB4 _).trans ((if_neg (by decide)).trans eB3_19)
      have eB4_20 : B4.eval (.tmp 20) = v1 := (gB4 _).trans ((if_neg (by decide)).trans eB3_20)
      have eB4_15 : B4.eval (.tmp 15) = v2 := (gB4 _).trans ((if_neg (by decide)).trans eB3_15)
      have eB4_5 : B4.eval (.tmp 5) = v2 := (gB4 _).trans (if_pos rfl)
      have kB4_1 : B4.eval (.tmp 1) = a.eval (.tmp 1) := (gB4 _).trans ((if_neg (by decide)).trans kB3_1)
      have kB4_4 : B4.eval (.tmp 4) = a.eval (.tmp 4) := (gB4 _).trans ((if_neg (by decide)).trans kB3_4)
      clear hB4 gB4
      refine wpAnyH_take (i := 11) (v := v1) rfl (by kernel_rfl) (by kernel_rfl) (by kernel_rfl) (fun _ _ _ h => by cases h.1) (.inl ⟨rfl, fun w hw => ?z2⟩) c2 ?_
      case z2 =>
        have e' := eB4_20
        simp only [Act.eval, Array.getD_eq_getD_getElem?] at e'
        simp [execOp, go_sem, Act.eval, e']
      generalize hB5 : B4.put _ _ = B5
      have sB5 : B5.tmps.size = 74 := by rw [← hB5]; exact aput_size.trans sB4
      have gB5 : ∀ j, B5.eval (.tmp j) = if 6 = j then v1 else B4.eval (.tmp j) := fun j => by rw [← hB5]; exact put_get j (by rw [sB4]; decide)
      have dB5 : B5.defers = a.defers := by rw [← hB5]; exact dB4
      have eB5_0 : B5.eval (.tmp 0) = .pointer (some ⟨b, 0, none⟩) := (gB5 _).trans ((if_neg (by decide)).trans eB4_0)
      have eB5_14 : B5.eval (.tmp 14) = .int .i64 t := (gB5 _).trans ((if_neg (by decide)).trans eB4_14)
      have eB5_19 : B5.eval (.tmp 19) = .int .i64 t := (gB5 _).trans ((if_neg (by decide)).trans eB4_19)
      have eB5_20 : B5.eval (.tmp 20) = v1 := (gB5 _).trans ((if_neg (by decide)).trans eB4_20)
      have eB5_15 : B5.eval (.tmp 15) = v2 := (gB5 _).trans ((if_neg (by decide)).trans eB4_15)
      have eB5_5 : B5.eval (.tmp 5) = v2 := (gB5 _).trans ((if_neg (by decide)).trans eB4_5)
      have eB5_6 : B5.eval (.tmp 6) = v1 := (gB5 _).trans (if_pos rfl)
      have kB5_1 : B5.eval (.tmp 1) = a.eval (.tmp 1) := (gB5 _).trans ((if_neg (by decide)).trans kB4_1)
      have kB5_4 : B5.eval (.tmp 4) = a.eval (.tmp 4) := (gB5 _).trans ((if_neg (by decide)).trans kB4_4)
      clear hB5 gB5
      refine wpAnyH_done (by kernel_rfl) ⟨rfl, Z2, 4, 3, rfl, St2, ok2, ⟨dB5.trans (hE.defers.trans St2.dse.symm), sB5, ?_⟩, ?_, ?_⟩ _
      · intro d
        rw [hEE]
        rcases getE_in [(0, .ptr 0 0), (1, .fn (.func fid) [] [.ptr 2 0]), (4, .v (.int .i64 0)), (5, .own 4 t), (6, .own 3 t)] d with q | ⟨y, q1, q2, q3⟩
        · rw [q]; exact .none _
        · rw [q3]
          show Rep Z2 y.2 (B5.eval (.tmp d))
          simp only [List.mem_cons, List.not_mem_nil, or_false] at q1
          rcases q1 with rfl | rfl | rfl | rfl | rfl <;> (simp only at q2; subst q2)
          · rw [eB5_0, ← ea_0]; exact hp0.mono St2
          · rw [kB5_1]; exact hp1.mono St2
          · rw [kB5_4]; exact hp4.mono St2
          · rw [eB5_5]; have h3 := rep2; simpa [hz1, y2, hh, htn] using h3
          · rw [eB5_6]; have h3 := (rep1.mono S2); simpa [hz1, y2, hh, htn] using h3
      · rw [hz2, hz1, y2, List.append_assoc]; rfl
      · exact .inr ⟨rfl, rfl⟩
  · rintro ex a' w' ⟨rfl, Y, i, j, rfl, S, hY, hEY, hYh, hij⟩
    refine ⟨Y, _, rfl, S.toN hbs, hY, hEY, ?_⟩
    rw [hYh, hh, hEE]
    clear hp0 hp1 hp4 cellT hmk hcell0 hcell g5 g3 g2 g4 hv0 hb y1 y2 y3 y4 hX hE hsz hh hbs S hY hEY hYh hEE
    have TI := pinter_tc t t id (resF t val) h2 (by omega) h256 (fun i hi => hi) (fun i hi => resF_lt (by omega) val i)
    have hD : degS t val = stepsN ((trimN (fun i => (interL t t id (resF t val)).1.getD i 0) (interL t t id (resF t val)).1.length - 1 : Nat) : Int) := rfl
    have hll : (interL t t id (resF t val)).1.length ≤ 256 := Nat.le_trans (inter_len h2 id (resF t val)) h256
    generalize degS t val = dg at *
    generalize (interL t t id (resF t val)).1 = l at *
    generalize (interL t t id (resF t val)).2 = er at *
    rcases hij with ⟨rfl, rfl⟩ | ⟨rfl, rfl⟩
    · simp (disch := first | assumption | exact Wv.D | fail) only [Wv.B, simprocAttr]
      refine wfor (σ := Nat) (fun k => [(0, .ptr 0 0), (1, .fn (.func fid) [] [.ptr 2 0]), (5, .own 3 t), (6, .own 4 t), (22, .v (.int .i64 t)), (23, .v (.int .i64 k))])
        (fun k => [some (.blk [.v (.int .i64 x.n), .v (.int .u32 x.p), .v (.int .i64 x.r), .t x.ch.length 1 (x.ch.map fun (c : Nat) => .v (.int .u32 c)), .v (.int .u32 x.sp), .v (.int .i64 x.wt), .v (.int .u32 x.er), .v (.int .i64 t), .mp 1]), some (.map (nsE ns)), some (.blk C), some (.arr 22 1 (tab t fun i => .v (.int .u32 (xiF k i : Nat))) 0), some (.arr 22 1 (tab t fun i => .v (.int .u32 (yiF t val k i : Nat))) 0)])
        (fun k => k ≤ t) (fun k => t - k) 0 (Nat.zero_le _) (by simp (disch := first | assumption | exact Wv.D | fail) only [Wv.B, simprocAttr, xiF_zero, yiF_zero, Int.natCast_zero]) Wv.V ?_
      intro k hk
      by_cases hlt : k < t
      · have e1 : (k : Int) < (t : Int) := by omega
        have hv0 := hlo k hlt
        have hv1 := hhi k hlt
        have ht0 : ¬ (t : Int) = 0 := by omega
        have e2 : (val k + t).tmod t = ((resF t val k : Nat) : Int) := by rw [Int.tmod_eq_emod_of_nonneg hv0]; exact (resF_eq (by omega) val k).symm
        have e3 := resF_lt (t := t) (by omega) val k
        simp (disch := first | assumption | exact Wv.D | fail) only [Wv.B, simprocAttr, decide_eq_true e1]
        refine calm_HT (fst := []) (cap := [.ptr 2 0]) ((hval _ rfl k hlt).toP (fun _ _ => False)) ?_ (fun _ _ q => q.elim)
        simp (disch := first | assumption | exact Wv.D | fail) only [Wv.B, simprocAttr, decide_eq_false ht0, e2, tab_set, xiF_next, yiF_next]
        refine k_next (k + 1) (by omega) (by omega) Wv.V Wv.V2
      · obtain rfl : t = k := by omega
        simp (disch := first | assumption | exact Wv.D | fail) only [Wv.B, simprocAttr, Int.lt_irrefl, decide_false, xiF_full, yiF_full]
        refine call_cl TI (by simp only [Wv.BC, polA_clo, numT_clo]) (by simp only [Wv.BC, polA_clo]) ?_
        simp (disch := first | assumption | exact Wv.D | fail) only [Wv.B, simprocAttr]
        refine sCl_some rfl ?_
        simp (disch := first | assumption | exact Wv.D | fail) only [Wv.B, simprocAttr, polA, numT]
        refine wfor (σ := Nat) (fun m => [(8, .t l.length 1 (tab l.length fun i => .v (.int .u32 (l.getD i 0 : Nat)))), (10, .v (.int .i64 ((m : Int) - 1)))]) (fun m => [some (.blk [.v (.int .i64 x.n), .v (.int .u32 x.p), .v (.int .i64 x.r), .t x.ch.length 1 (x.ch.map fun (c : Nat) => .v (.int .u32 c)), .v (.int .u32 x.sp), .v (.int .i64 x.wt), .v (.int .u32 x.er), .v (.int .i64 t), .mp 1]), some (.map (nsE ns)), some (.blk C), some (.arr 22 1 (tab t fun i => .v (.int .u32 (id i : Nat))) t), some (.arr 22 1 (tab t fun i => .v (.int .u32 (resF t val i : Nat))) t)])
          (fun m => m ≤ l.length ∧ trimN (fun i => l.getD i 0) m = trimN (fun i => l.getD i 0) l.length) (fun m => m) l.length ⟨Nat.le_refl _, rfl⟩ Wv.V Wv.V ?_
        rintro m ⟨hm, hm2⟩
        by_cases h1m : 1 < m
        · have q1 : (0 : Int) < (m : Int) - 1 := by omega
          obtain ⟨j, rfl⟩ : ∃ j, m = j + 1 := ⟨m - 1, by omega⟩
          have q2 : ((j + 1 : Nat) : Int) - 1 = (j : Int) := by omega
          rw [trimN_succ] at hm2
          by_cases hz : l.getD j 0 = 0
          · rw [if_pos hz] at hm2
            simp (disch := first | assumption | exact Wv.D | fail) only [Wv.B, simprocAttr, q2, decide_eq_true q1, hz]
            refine k_next j ⟨by omega, hm2⟩ (by omega) rfl Wv.V
          · rw [if_neg hz] at hm2
            have hz' : ¬ ((l.getD j 0 : Nat) : Int) = 0 := by omega
            rw [← hm2, Nat.add_sub_cancel] at hD
            simp (disch := first | assumption | exact Wv.D | fail) only [Wv.B, simprocAttr, q2, decide_eq_true q1, decide_eq_false hz']
            refine call_TC (psteps_tc j (by omega)) rfl (by simp only [Wv.BC]) (by simp only [Wv.BC]) ?_
            simp (disch := first | assumption | exact Wv.D | fail) only [Wv.B, simprocAttr, hD]
        · have q1 : ¬ (0 : Int) < (m : Int) - 1 := by omega
          have hle := trimN_le (fun i => l.getD i 0) m
          have h0 : trimN (fun i => l.getD i 0) l.length - 1 = 0 := by omega
          rw [h0] at hD
          have hD' : dg = 0 := hD
          simp (disch := first | assumption | exact Wv.D | fail) only [Wv.B, simprocAttr, decide_eq_false q1, hD']
    · simp (disch := first | assumption | exact Wv.D | fail) only [Wv.B, simprocAttr]
      refine wfor (σ := Nat) (fun k => [(0, .ptr 0 0), (1, .fn (.func fid) [] [.ptr 2 0]), (5, .own 4 t), (6, .own 3 t), (22, .v (.int .i64 t)), (23, .v (.int .i64 k))])
        (fun k => [some (.blk [.v (.int .i64 x.n), .v (.int .u32 x.p), .v (.int .i64 x.r), .t x.ch.length 1 (x.ch.map fun (c : Nat) => .v (.int .u32 c)), .v (.int .u32 x.sp), .v (.int .i64 x.wt), .v (.int .u32 x.er), .v (.int .i64 t), .mp 1]), some (.map (nsE ns)), some (.blk C), some (.arr 22 1 (tab t fun i => .v (.int .u32 (yiF t val k i : Nat))) 0), some (.arr 22 1 (tab t fun i => .v (.int .u32 (xiF k i : Nat))) 0)])
        (fun k => k ≤ t) (fun k => t - k) 0 (Nat.zero_le _) (by simp (disch := first | assumption | exact Wv.D | fail) only [Wv.B, simprocAttr, xiF_zero, yiF_zero, Int.natCast_zero]) Wv.V ?_
      intro k hk
      by_cases hlt : k < t
      · have e1 : (k : Int) < (t : Int) := by omega
        have hv0 := hlo k hlt
        have hv1 := hhi k hlt
        have ht0 : ¬ (t : Int) = 0 := by omega
        have e2 : (val k + t).tmod t = ((resF t val k : Nat) : Int) := by rw [Int.tmod_eq_emod_of_nonneg hv0]; exact (resF_eq (by omega) val k).symm
        have e3 := resF_lt (t := t) (by omega) val k
        simp (disch := first | assumption | exact Wv.D | fail) only [Wv.B, simprocAttr, decide_eq_true e1]
        refine calm_HT (fst := []) (cap := [.ptr 2 0]) ((hval _ rfl k hlt).toP (fun _ _ => False)) ?_ (fun _ _ q => q.elim)
        simp (disch := first | assumption | exact Wv.D | fail) only [Wv.B, simprocAttr, decide_eq_false ht0, e2, tab_set, xiF_next, yiF_next]
        refine k_next (k + 1) (by omega) (by omega) Wv.V Wv.V2
      · obtain rfl : t = k := by omega
        simp (disch := first | assumption | exact Wv.D | fail) only [Wv.B, simprocAttr, Int.lt_irrefl, decide_false, xiF_full, yiF_full]
        refine call_cl TI (by simp only [Wv.BC, polA_clo, numT_clo]) (by simp only [Wv.BC, polA_clo]) ?_
        simp (disch := first | assumption | exact Wv.D | fail) only [Wv.B, simprocAttr]
        refine sCl_some rfl ?_
        simp (disch := first | assumption | exact Wv.D | fail) only [Wv.B, simprocAttr, polA, numT]
        refine wfor (σ := Nat) (fun m => [(8, .t l.length 1 (tab l.length fun i => .v (.int .u32 (l.getD i 0 : Nat)))), (10, .v (.int .i64 ((m : Int) - 1)))]) (fun m => [some (.blk [.v (.int .i64 x.n), .v (.int .u32 x.p), .v (.int .i64 x.r), .t x.ch.length 1 (x.ch.map fun (c : Nat) => .v (.int .u32 c)), .v (.int .u32 x.sp), .v (.int .i64 x.wt), .v (.int .u32 x.er), .v (.int .i64 t), .mp 1]), some (.map (nsE ns)), some (.blk C), some (.arr 22 1 (tab t fun i => .v (.int .u32 (resF t val i : Nat))) t), some (.arr 22 1 (tab t fun i => .v (.int .u32 (id i : Nat))) t)])
          (fun m => m ≤ l.length ∧ trimN (fun i => l.getD i 0) m = trimN (fun i => l.getD i 0) l.length) (fun m => m) l.length ⟨Nat.le_refl _, rfl⟩ Wv.V Wv.V ?_
        rintro m ⟨hm, hm2⟩
        by_cases h1m : 1 < m
        · have q1 : (0 : Int) < (m : Int) - 1 := by omega
          obtain ⟨j, rfl⟩ : ∃ j, m = j + 1 := ⟨m - 1, by omega⟩
          have q2 : ((j + 1 : Nat) : Int) - 1 = (j : Int) := by omega
          rw [trimN_succ] at hm2
          by_cases hz : l.getD j 0 = 0
          · rw [if_pos hz] at hm2
            simp (disch := first | assumption | exact Wv.D | fail) only [Wv.B, simprocAttr, q2, decide_eq_true q1, hz]
            refine k_next j ⟨by omega, hm2⟩ (by omega) rfl Wv.V
          · rw [if_neg hz] at hm2
            have hz' : ¬ ((l.getD j 0 : Nat) : Int) = 0 := by omega
            rw [← hm2, Nat.add_sub_cancel] at hD
            simp (disch := first | assumption | exact Wv.D | fail) only [Wv.B, simprocAttr, q2, decide_eq_true q1, decide_eq_false hz']
            refine call_TC (psteps_tc j (by omega)) rfl (by simp only [Wv.BC]) (by simp only [Wv.BC]) ?_
            simp (disch := first | assumption | exact Wv.D | fail) only [Wv.B, simprocAttr, hD]
        · have q1 : ¬ (0 : Int) < (m : Int) - 1 := by omega
          have hle := trimN_le (fun i => l.getD i 0) m
          have h0 : trimN (fun i => l.getD i 0) l.length - 1 = 0 := by omega
          rw [h0] at hD
          have hD' : dg = 0 := hD
          simp (disch := first | assumption | exact Wv.D | fail) only [Wv.B, simprocAttr, decide_eq_false q1, hD']
end Go.Proofs.YtljfgdlgmdcmfaaGreat
