/- PlainLaws: the walk. -/
import Derived.Test.YtljfgdlgmdcmfaaGreatPlnK
import Derived.Test.YtljfgdlgmdcmfaaGreatMaE
namespace Go.Proofs.YtljfgdlgmdcmfaaGreat
open Go.RowKit Wv
set_option linter.unusedVariables false
set_option linter.unusedSimpArgs false

theorem eput_get {a : Act} {d : Nat} {v : Value} (j : Nat) (hd : d < a.tmps.size) : (a.put (some d) v).eval (.tmp j) = if d = j then v else a.eval (.tmp j) := by
  show (a.tmps.setIfInBounds d v).getD j undef = _
  rw [getD_set]
  by_cases e : d = j
  · subst e; rw [if_pos ⟨rfl, hd⟩, if_pos rfl]
  · rw [if_neg (fun h => e h.1), if_neg e]; rfl
theorem eput_size {a : Act} {d : Nat} {v : Value} : (a.put (some d) v).tmps.size = a.tmps.size := by
  show (a.tmps.setIfInBounds d v).size = _
  exact Array.size_setIfInBounds
theorem cloAp {l m : List AV} (h1 : ∀ a, a ∈ l → Clo a) (h2 : ∀ a, a ∈ m → Clo a) : ∀ a, a ∈ l ++ m → Clo a := fun a h => (List.mem_append.1 h).elim (h1 a) (h2 a)
theorem cloCo {x : AV} {m : List AV} (h1 : Clo x) (h2 : ∀ a, a ∈ m → Clo a) : ∀ a, a ∈ x :: m → Clo a := fun a h => (List.mem_cons.1 h).elim (fun e => e ▸ h1) (h2 a)
theorem viewD_row {h : Hp} {k id N T z : Nat} {f : Nat → Int} (hg : h[id]? = some (some (.arr T 1 (tab N fun x => .v (.int .i64 (f x))) z))) (hz : z = N) : viewD (k + 1) h (.own id N) = vcA N f := by
  have hl : (tab N fun x => AV.v (.int .i64 (f x))).length = N := tab_len
  have hm : (tab N fun x => AV.v (.int .i64 (f x))).map (viewD k h) = tab N fun x => AV.v (.int .i64 (f x)) := by
    unfold tab
    rw [List.map_map]
    refine List.map_congr_left fun x _ => ?_
    cases k <;> rfl
  show (match h[id]? with | some (some (.arr _ s cells fz)) => bif Nat.beq cells.length (N * s) && Nat.beq fz cells.length then AV.t N s (cells.map (viewD k h)) else .own id N | _ => .own id N) = _
  rw [hg]
  simp only
  rw [hm, hl, hz, Nat.mul_one, Nat.beq_refl]
  rfl
theorem viewD_two {h : Hp} {i1 i2 id N T1 T2 : Nat} {f g : Nat → Int} (h6 : h[id]? = some (some (.arr T1 1 [.own i1 N, .own i2 N] 2))) (h1 : h[i1]? = some (some (.arr T2 1 (tab N fun x => .v (.int .i64 (f x))) (tab N fun x => AV.v (.int .i64 (f x))).length))) (h2 : h[i2]? = some (some (.arr T2 1 (tab N fun x => .v (.int .i64 (g x))) (tab N fun x => AV.v (.int .i64 (g x))).length))) :
    viewD 3 h (.own id 2) = .t 2 1 [vcA N f, vcA N g] := by
  show (match h[id]? with | some (some (.arr _ s cells fz)) => bif Nat.beq cells.length (2 * s) && Nat.beq fz cells.length then AV.t 2 s (cells.map (viewD 2 h)) else .own id 2 | _ => .own id 2) = _
  rw [h6]
  show AV.t 2 1 [viewD 2 h (.own i1 N), viewD 2 h (.own i2 N)] = _
  rw [viewD_row h1 tab_len, viewD_row h2 tab_len]
theorem peval_law {N p a b : Nat} (h : isL N p a b) (f g : Nat → Int) (hf : ∀ j, j < N → -(((p : Int) - 1) / 2) ≤ f j ∧ f j ≤ ((p : Int) - 1) / 2) (hg : ∀ j, j < N → -(((p : Int) - 1) / 2) ≤ g j ∧ g j ≤ ((p : Int) - 1) / 2) :
    ∃ O0 O1 O2 O3 : Nat → Int, TC Tryz.prog 33 [.g (parC (parL N p a b)), .g (ciC (cL p)), .t 2 1 [vcA N f, vcA N g]] (.tup [.t 4 1 [vcA N O0, vcA N O1, vcA N O2, vcA N O3], .v (.int .i64 0)]) ∧ (∀ j, j < N → O0 j = O1 j) ∧ (∀ j, j < N → O2 j = if f j = g j then 1 else 0) ∧ ∀ j, j < N → O3 j = f j := by
  obtain ⟨W, hW⟩ : ∃ W : Nat → Nat → Int, W = fun i => match i with | 0 => f | _ => g := ⟨_, rfl⟩
  have hN : 4 ≤ N := by unfold isL at h; omega
  have hp3 : (3 : Int) ≤ (p : Int) := by unfold isL at h; omega
  have hpo : (p : Int) % 2 = 1 := by unfold isL at h; omega
  have hbad : ∀ f : Nat → Int, (∀ j, j < N → -(((p : Int) - 1) / 2) ≤ f j ∧ f j ≤ ((p : Int) - 1) / 2) → badV N p N f = false := fun f hf => by
    unfold badV
    have h1 := (mxN_le (f := f) (h := ((p : Int) - 1) / 2) (N - 1)).2 fun i hi => (hf i (by omega)).2
    have h2 := (mnN_ge (f := f) (h := -(((p : Int) - 1) / 2)) (N - 1)).2 fun i hi => (hf i (by omega)).1
    rw [decide_eq_true rfl, decide_eq_false (by omega), decide_eq_false (by omega)]; rfl
  have T := pevalL h (cL p) (cL_ok p) (fun i hi => exL_mem (p := fun e => allK ksL e) (fun e he => (cL_es p e he).2) (show i < 4 from hi)) (cL_type h) 2 (fun _ => N) W (by omega) (fun _ _ => by show N ≤ _; unfold isL at h; omega) (cL_go h W)
  have hA : evalA N p 0 (cL p) 2 (fun _ => N) W = .tup [.t 4 1 [vcA N (outF N p (cL p) W 0), vcA N (outF N p (cL p) W 1), vcA N (outF N p (cL p) W 2), vcA N (outF N p (cL p) W 3)], .v (.int .i64 0)] := by
    unfold evalA
    rw [if_neg (by simp), if_neg (fun q => q rfl), if_neg (by
      intro q
      unfold anyN at q
      obtain ⟨i, hi, hb⟩ := List.any_eq_true.1 q
      have hi' := List.mem_range.1 hi
      have : badV N p N (W i) = false := by
        rw [hW]
        match i, hi' with
        | 0, _ => exact hbad f hf
        | 1, _ => exact hbad g hg
      rw [this] at hb
      cases hb)]
    rfl
  rw [hA, out0, out1, out2, out3] at T
  refine ⟨_, _, _, _, T.wk ⟨Wk.refl _, Wk.refl _, ?_, trivial⟩ (Wk.refl _), fun j hj => ?_, fun j hj => ?_, fun j hj => ?_⟩
  · rw [hW]; exact Wk.refl _
  · exact ring_law hp3 hpo
  · show balN p (if W 0 j = W 1 j then 1 else 0) = _
    rw [hW]
    show balN p (if f j = g j then 1 else 0) = _
    split
    · exact balN_self hp3 hpo (by omega)
    · exact balN_self hp3 hpo (by omega)
  · show balN p (powZ p (W 0 j) p) = _
    rw [hW]
    exact fermat h (hf j hj)
set_option maxHeartbeats 1600000 in
set_option maxRecDepth 100000 in
theorem plaws_tc (n : Int) (p : Nat) (m : Nat) (ln : Nat → Nat) (vs : Nat → Nat → Int) (hn : -9223372036854775808 ≤ n ∧ n ≤ 9223372036854775807) (hp : p < 4294967296) (hm : m ≤ 140737488351232) (hl : ∀ i, i < m → ln i ≤ 140737488351232) (hv : ∀ i, i < m → ∀ j, j < ln i → -9223372036854775808 ≤ vs i j ∧ vs i j ≤ 9223372036854775807) :
    TC Tryz.prog 10 [.v (.int .i64 n), u3 p, vsA m ln vs] (.v (.bool true)) := by
  have TD := rdef_tc n p hn hp
  have hDc := dfA_clo n p
  unfold u3 vsA vcA at *
  refine Wv.TC.by 194 [20, 0, 1, 8, 2, 53, 12, 62, 10, 11, 9, 13, 14, 7, 15, 17, 16, 139, 18, 142, 179, 6] [(11, 20), (13, 28), (20, 35), (22, 14), (7, 1000000), (3000011, 6)] [.tmp 6] (by kernel_rfl) Tryz.func10 rfl rfl rfl (by kernel_rfl) (by kernel_rfl) (Nat.le_of_ble_eq_true rfl) rfl ?clo ?_
  case clo => simp only [Wv.BC]
  simp (maxSteps := 2000000) (disch := first | omega | assumption | (simp only [Wv.Bx, simprocAttr] <;> omega) | fail) only [Wv.B, simprocAttr]
  refine call_TC shown24_tc rfl (by simp only [Wv.BC]) (by simp only [Wv.BC]) ?_
  rcases df_cases n p with ⟨e, he, hD⟩ | ⟨N, a, b, rfl, hN4, hN32, hD, hL⟩
  · rw [hD] at TD hDc
    unfold zrP at TD hDc
    simp (maxSteps := 2000000) (disch := first | omega | assumption | (simp only [Wv.Bx, simprocAttr] <;> omega) | fail) only [Wv.B, simprocAttr]
    refine call_TC TD rfl (by simp only [Wv.BC]) hDc ?_
    simp (maxSteps := 2000000) (disch := first | omega | assumption | (simp only [Wv.Bx, simprocAttr] <;> omega) | fail) only [Wv.B, simprocAttr, decide_eq_false he, decide_eq_true he]
  rw [hD] at TD hDc
  unfold parC parL at TD hDc
  simp only [List.map_cons, List.map_nil, List.length_cons, List.length_nil, Nat.zero_add] at TD hDc
  simp (maxSteps := 2000000) (disch := first | omega | assumption | (simp only [Wv.Bx, simprocAttr] <;> omega) | fail) only [Wv.B, simprocAttr]
  refine call_TC TD rfl (by simp only [Wv.BC]) hDc ?_
  by_cases h64 : p ≤ 64
  rotate_left
  · simp (maxSteps := 2000000) (disch := first | omega | assumption | (simp only [Wv.Bx, simprocAttr] <;> omega) | fail) only [Wv.B, simprocAttr, decide_eq_true (show (p : Int) > 64 by omega)]
  by_cases h2 : m = 2
  rotate_left
  · simp (maxSteps := 2000000) (disch := first | omega | assumption | (simp only [Wv.Bx, simprocAttr] <;> omega) | fail) only [Wv.B, simprocAttr, decide_eq_false (show ¬ (p : Int) > 64 by omega), decide_eq_false (show ¬ (m : Int) = 2 by omega)]
  subst h2
  by_cases h3 : ln 0 = N
  rotate_left
  · simp (maxSteps := 2000000) (disch := first | omega | assumption | (simp only [Wv.Bx, simprocAttr] <;> omega) | fail) only [Wv.B, simprocAttr, decide_eq_false (show ¬ (p : Int) > 64 by omega), decide_eq_false (show ¬ (ln 0 : Int) = N by omega)]
  by_cases h4 : ln 1 = N
  rotate_left
  · simp (maxSteps := 2000000) (disch := first | omega | assumption | (simp only [Wv.Bx, simprocAttr] <;> omega) | fail) only [Wv.B, simprocAttr, decide_eq_false (show ¬ (p : Int) > 64 by omega), decide_eq_true (show (ln 0 : Int) = N by omega), decide_eq_false (show ¬ (ln 1 : Int) = N by omega)]
  simp (maxSteps := 2000000) (disch := first | omega | assumption | (simp only [Wv.Bx, simprocAttr] <;> omega) | fail) only [Wv.B, simprocAttr, decide_eq_false (show ¬ (p : Int) > 64 by omega), decide_eq_true (show (ln 0 : Int) = N by omega), decide_eq_true (show (ln 1 : Int) = N by omega)]
  intro X a0 hbs hh hX hE
  have hsz : a0.tmps.size = 194 := hE.size
  obtain ⟨Y0, y1, y2, y3, y4⟩ := drawn_up hX
  have hmA : makeA Tryz.prog 43 (N : Int) (N : Int) = some (2, 1, tab N fun i => .v (.int .i64 0)) := by simp (maxSteps := 2000000) (disch := first | omega | assumption | (simp only [Wv.Bx, simprocAttr] <;> omega) | fail) only [Wv.B, simprocAttr]
  have hmk : ∀ (Y : Cx), Ok Y → ∃ v Z, (Instr.makeSlice 43 (.int .i64 N) (.int .i64 N)).run Tryz.prog Y.w = .ok v Z.w ∧ Step Y Z ∧ Ok Z ∧ Rep Z (.own Y.h.length (N : Int).toNat) v ∧ Z.h = Y.h ++ [some (.arr 2 1 (tab N fun i => .v (.int .i64 0)) 0)] := fun Y hY => make_ok hY hmA
  obtain ⟨EE, hEE⟩ : ∃ EE : Nat → Nat → Ev, EE = fun i j => [(0, .v (.int .i64 N)), (2, .t 2 1 (tab 2 fun i => .t (ln i) 1 (tab (ln i) fun j => .v (.int .i64 (vs i j))))), (9, .v (.int .i64 p)), (7, .ptr 0 0), (10, .own i N), (11, .own j N)] := ⟨_, rfl⟩
  have htn : (N : Int).toNat = N := Int.toNat_natCast N
  have r0 : Rep X (.v (.int .i64 N)) (a0.eval (.tmp 0)) := hE.rep 0
  have r2 : Rep X (.t 2 1 (tab 2 fun i => .t (ln i) 1 (tab (ln i) fun j => .v (.int .i64 (vs i j))))) (a0.eval (.tmp 2)) := hE.rep 2
  have r9 : Rep X (.v (.int .i64 p)) (a0.eval (.tmp 9)) := hE.rep 9
  have r7 : Rep X (.ptr 0 0) (a0.eval (.tmp 7)) := hE.rep 7
  have e0 : a0.eval (.tmp 0) = .int .i64 N := rep_v r0
  refine wp_mono (wp_region_held (S := fun _ => True) (Q := fun ex a' w' => ex = .normal ∧ ∃ (Y : Cx) (i j : Nat), Y.w = w' ∧ Step X Y ∧ Ok Y ∧ EnvOk Y 194 (EE i j) a' ∧ Y.h = X.h ++ [some (.arr 2 1 (tab N fun i => .v (.int .i64 0)) 0), some (.arr 2 1 (tab N fun i => .v (.int .i64 0)) 0)] ∧ ((i = 1 ∧ j = 2) ∨ (i = 2 ∧ j = 1))) (by kernel_rfl) ?_) ?_
  · rw [← y1]
    have dA : a0.defers = X.ds := hE.defers
    refine wpAnyH_take (i := 0) (v := .int .i64 N) rfl (by kernel_rfl) (by kernel_rfl) (by kernel_rfl) (fun _ _ _ h => by cases h.1) (.inl ⟨rfl, fun w hw => ?y0⟩) trivial ?_
    case y0 =>
      have e' := e0
      simp only [Act.eval, Array.getD_eq_getD_getElem?] at e'
      simp [execOp, go_sem, Act.eval, e']
    generalize hA1 : a0.put _ _ = A1
    have sA1 : A1.tmps.size = 194 := by rw [← hA1]; exact eput_size.trans hsz
    have gA1 : ∀ j, A1.eval (.tmp j) = if 56 = j then .int .i64 N else a0.eval (.tmp j) := fun j => by rw [← hA1]; exact eput_get j (by rw [hsz]; decide)
    have dA1 : A1.defers = X.ds := by rw [← hA1]; exact dA
    clear hA1
    have eA1 : A1.eval (.tmp 0) = .int .i64 N := (gA1 0).trans e0
    refine wpAnyH_take (i := 2) (v := .int .i64 N) rfl (by kernel_rfl) (by kernel_rfl) (by kernel_rfl) (fun _ _ _ h => by cases h.1) (.inl ⟨rfl, fun w hw => ?y1⟩) trivial ?_
    case y1 =>
      have e' := eA1
      simp only [Act.eval, Array.getD_eq_getD_getElem?] at e'
      simp [execOp, go_sem, Act.eval, e']
    generalize hA2 : A1.put _ _ = A2
    have sA2 : A2.tmps.size = 194 := by rw [← hA2]; exact eput_size.trans sA1
    have gA2 : ∀ j, A2.eval (.tmp j) = if 58 = j then .int .i64 N else if 56 = j then .int .i64 N else a0.eval (.tmp j) := fun j => by rw [← gA1 j, ← hA2]; exact eput_get j (by rw [sA1]; decide)
    have dA2 : A2.defers = X.ds := by rw [← hA2]; exact dA1
    clear hA2 gA1 eA1
    refine wpAnyH_all (rs := [1, 3]) (by kernel_rfl) (by decide) ?_
    intro i hi
    have hi' : i = 1 ∨ i = 3 := by simpa using hi
    clear hi
    obtain ⟨v1, Z1, q1, S1, ok1, rep1, hz1⟩ := hmk Y0 y4
    have St1 := y3.trans hX S1
    obtain ⟨v2, Z2, q2, S2, ok2, rep2, hz2⟩ := hmk Z1 ok1
    have St2 := St1.trans hX S2
    have h3 := rep1.mono S2
    have hzz : Z2.h = X.h ++ [some (.arr 2 1 (tab N fun i => .v (.int .i64 0)) 0), some (.arr 2 1 (tab N fun i => .v (.int .i64 0)) 0)] := by rw [hz2, hz1, y2, List.append_assoc]; rfl
    have hr1 : Rep Z2 (.own 1 N) v1 := by simpa [hz1, y2, hh, htn] using h3
    have hr2 : Rep Z2 (.own 2 N) v2 := by simpa [hz1, y2, hh, htn] using rep2
    rcases hi' with rfl | rfl
    · refine wpOp_val rfl rfl (v := v1) (w' := Z1.w) ?_ ⟨trivial, ?_⟩
      · have e' : A2.eval (.tmp 56) = .int .i64 N := by simp [gA2]
        simp only [Act.eval, Array.getD_eq_getD_getElem?] at e'
        simp [execOp, Act.eval, e', q1]
      generalize hB1 : A2.put _ _ = B1
      have sB1 : B1.tmps.size = 194 := by rw [← hB1]; exact eput_size.trans sA2
      have gB1 : ∀ j, B1.eval (.tmp j) = if 57 = j then v1 else A2.eval (.tmp j) := fun j => by rw [← hB1]; exact eput_get j (by rw [sA2]; decide)
      have dB1 : B1.defers = X.ds := by rw [← hB1]; exact dA2
      clear hB1
      refine wpAnyH_take (i := 4) (v := v1) rfl (by kernel_rfl) (by kernel_rfl) (by kernel_rfl) (fun _ _ _ h => by cases h.1) (.inl ⟨rfl, fun w hw => ?z1⟩) trivial ?_
      case z1 =>
        have e' : B1.eval (.tmp 57) = v1 := by simp [gB1, gA2]
        simp only [Act.eval, Array.getD_eq_getD_getElem?] at e'
        simp [execOp, go_sem, Act.eval, e']
      generalize hB2 : B1.put _ _ = B2
      have sB2 : B2.tmps.size = 194 := by rw [← hB2]; exact eput_size.trans sB1
      have gB2 : ∀ j, B2.eval (.tmp j) = if 10 = j then v1 else B1.eval (.tmp j) := fun j => by rw [← hB2]; exact eput_get j (by rw [sB1]; decide)
      have dB2 : B2.defers = X.ds := by rw [← hB2]; exact dB1
      clear hB2
      refine wpAnyH_all (rs := [3]) (by kernel_rfl) (by decide) ?_
      intro i hi
      rw [List.mem_singleton] at hi
      subst hi
      refine wpOp_val rfl rfl (v := v2) (w' := Z2.w) ?_ ⟨trivial, ?_⟩
      · have e' : B2.eval (.tmp 58) = .int .i64 N := by simp [gB2, gB1, gA2]
        simp only [Act.eval, Array.getD_eq_getD_getElem?] at e'
        simp [execOp, Act.eval, e', q2]
      generalize hB3 : B2.put _ _ = B3
      have sB3 : B3.tmps.size = 194 := by rw [← hB3]; exact eput_size.trans sB2
      have gB3 : ∀ j, B3.eval (.tmp j) = if 59 = j then v2 else B2.eval (.tmp j) := fun j => by rw [← hB3]; exact eput_get j (by rw [sB2]; decide)
      have dB3 : B3.defers = X.ds := by rw [← hB3]; exact dB2
      clear hB3
      refine wpAnyH_take (i := 5) (v := v2) rfl (by kernel_rfl) (by kernel_rfl) (by kernel_rfl) (fun _ _ _ h => by cases h.1) (.inl ⟨rfl, fun w hw => ?z2⟩) trivial ?_
      case z2 =>
        have e' : B3.eval (.tmp 59) = v2 := by simp [gB3, gB2, gB1, gA2]
        simp only [Act.eval, Array.getD_eq_getD_getElem?] at e'
        simp [execOp, go_sem, Act.eval, e']
      generalize hB4 : B3.put _ _ = B4
      have sB4 : B4.tmps.size = 194 := by rw [← hB4]; exact eput_size.trans sB3
      have gB4 : ∀ j, B4.eval (.tmp j) = if 11 = j then v2 else B3.eval (.tmp j) := fun j => by rw [← hB4]; exact eput_get j (by rw [sB3]; decide)
      have dB4 : B4.defers = X.ds := by rw [← hB4]; exact dB3
      clear hB4
      refine wpAnyH_done (by kernel_rfl) ⟨rfl, Z2, 1, 2, rfl, St2, ok2, ⟨dB4.trans St2.dse.symm, sB4, ?_⟩, hzz, .inl ⟨rfl, rfl⟩⟩ _
      intro d
      rw [hEE]
      rcases getE_in [(0, .v (.int .i64 N)), (2, .t 2 1 (tab 2 fun i => .t (ln i) 1 (tab (ln i) fun j => .v (.int .i64 (vs i j))))), (9, .v (.int .i64 p)), (7, .ptr 0 0), (10, .own 1 N), (11, .own 2 N)] d with q | ⟨y, q1, q2, q3⟩
      · rw [q]; exact .none _
      · rw [q3]
        show Rep Z2 y.2 (B4.eval (.tmp d))
        simp only [List.mem_cons, List.not_mem_nil, or_false] at q1
        rcases q1 with rfl | rfl | rfl | rfl | rfl | rfl <;> (simp only at q2; subst q2)
        · rw [show B4.eval (.tmp 0) = a0.eval (.tmp 0) from by simp [gB4, gB3, gB2, gB1, gA2]]; exact r0.mono St2
        · rw [show B4.eval (.tmp 2) = a0.eval (.tmp 2) from by simp [gB4, gB3, gB2, gB1, gA2]]; exact r2.mono St2
        · rw [show B4.eval (.tmp 9) = a0.eval (.tmp 9) from by simp [gB4, gB3, gB2, gB1, gA2]]; exact r9.mono St2
        · rw [show B4.eval (.tmp 7) = a0.eval (.tmp 7) from by simp [gB4, gB3, gB2, gB1, gA2]]; exact r7.mono St2
        · rw [show B4.eval (.tmp 10) = v1 from by simp [gB4, gB3, gB2, gB1, gA2]]; exact hr1
        · rw [show B4.eval (.tmp 11) = v2 from by simp [gB4, gB3, gB2, gB1, gA2]]; exact hr2
    · refine wpOp_val rfl rfl (v := v1) (w' := Z1.w) ?_ ⟨trivial, ?_⟩
      · have e' : A2.eval (.tmp 58) = .int .i64 N := by simp [gA2]
        simp only [Act.eval, Array.getD_eq_getD_getElem?] at e'
        simp [execOp, Act.eval, e', q1]
      generalize hB1 : A2.put _ _ = B1
      have sB1 : B1.tmps.size = 194 := by rw [← hB1]; exact eput_size.trans sA2
      have gB1 : ∀ j, B1.eval (.tmp j) = if 59 = j then v1 else A2.eval (.tmp j) := fun j => by rw [← hB1]; exact eput_get j (by rw [sA2]; decide)
      have dB1 : B1.defers = X.ds := by rw [← hB1]; exact dA2
      clear hB1
      refine wpAnyH_all (rs := [1]) (by kernel_rfl) (by decide) ?_
      intro i hi
      rw [List.mem_singleton] at hi
      subst hi
      refine wpOp_val rfl rfl (v := v2) (w' := Z2.w) ?_ ⟨trivial, ?_⟩
      · have e' : B1.eval (.tmp 56) = .int .i64 N := by simp [gB1, gA2]
        simp only [Act.eval, Array.getD_eq_getD_getElem?] at e'
        simp [execOp, Act.eval, e', q2]
      generalize hB2 : B1.put _ _ = B2
      have sB2 : B2.tmps.size = 194 := by rw [← hB2]; exact eput_size.trans sB1
      have gB2 : ∀ j, B2.eval (.tmp j) = if 57 = j then v2 else B1.eval (.tmp j) := fun j => by rw [← hB2]; exact eput_get j (by rw [sB1]; decide)
      have dB2 : B2.defers = X.ds := by rw [← hB2]; exact dB1
      clear hB2
      refine wpAnyH_take (i := 4) (v := v2) rfl (by kernel_rfl) (by kernel_rfl) (by kernel_rfl) (fun _ _ _ h => by cases h.1) (.inl ⟨rfl, fun w hw => ?z3⟩) trivial ?_
      case z3 =>
        have e' : B2.eval (.tmp 57) = v2 := by simp [gB2, gB1, gA2]
        simp only [Act.eval, Array.getD_eq_getD_getElem?] at e'
        simp [execOp, go_sem, Act.eval, e']
      generalize hB3 : B2.put _ _ = B3
      have sB3 : B3.tmps.size = 194 := by rw [← hB3]; exact eput_size.trans sB2
      have gB3 : ∀ j, B3.eval (.tmp j) = if 10 = j then v2 else B2.eval (.tmp j) := fun j => by rw [← hB3]; exact eput_get j (by rw [sB2]; decide)
      have dB3 : B3.defers = X.ds := by rw [← hB3]; exact dB2
      clear hB3
      refine wpAnyH_take (i := 5) (v := v1) rfl (by kernel_rfl) (by kernel_rfl) (by kernel_rfl) (fun _ _ _ h => by cases h.1) (.inl ⟨rfl, fun w hw => ?z4⟩) trivial ?_
      case z4 =>
        have e' : B3.eval (.tmp 59) = v1 := by simp [gB3, gB2, gB1, gA2]
        simp only [Act.eval, Array.getD_eq_getD_getElem?] at e'
        simp [execOp, go_sem, Act.eval, e']
      generalize hB4 : B3.put _ _ = B4
      have sB4 : B4.tmps.size = 194 := by rw [← hB4]; exact eput_size.trans sB3
      have gB4 : ∀ j, B4.eval (.tmp j) = if 11 = j then v1 else B3.eval (.tmp j) := fun j => by rw [← hB4]; exact eput_get j (by rw [sB3]; decide)
      have dB4 : B4.defers = X.ds := by rw [← hB4]; exact dB3
      clear hB4
      refine wpAnyH_done (by kernel_rfl) ⟨rfl, Z2, 2, 1, rfl, St2, ok2, ⟨dB4.trans St2.dse.symm, sB4, ?_⟩, hzz, .inr ⟨rfl, rfl⟩⟩ _
      intro d
      rw [hEE]
      rcases getE_in [(0, .v (.int .i64 N)), (2, .t 2 1 (tab 2 fun i => .t (ln i) 1 (tab (ln i) fun j => .v (.int .i64 (vs i j))))), (9, .v (.int .i64 p)), (7, .ptr 0 0), (10, .own 2 N), (11, .own 1 N)] d with q | ⟨y, q1, q2, q3⟩
      · rw [q]; exact .none _
      · rw [q3]
        show Rep Z2 y.2 (B4.eval (.tmp d))
        simp only [List.mem_cons, List.not_mem_nil, or_false] at q1
        rcases q1 with rfl | rfl | rfl | rfl | rfl | rfl <;> (simp only at q2; subst q2)
        · rw [show B4.eval (.tmp 0) = a0.eval (.tmp 0) from by simp [gB4, gB3, gB2, gB1, gA2]]; exact r0.mono St2
        · rw [show B4.eval (.tmp 2) = a0.eval (.tmp 2) from by simp [gB4, gB3, gB2, gB1, gA2]]; exact r2.mono St2
        · rw [show B4.eval (.tmp 9) = a0.eval (.tmp 9) from by simp [gB4, gB3, gB2, gB1, gA2]]; exact r9.mono St2
        · rw [show B4.eval (.tmp 7) = a0.eval (.tmp 7) from by simp [gB4, gB3, gB2, gB1, gA2]]; exact r7.mono St2
        · rw [show B4.eval (.tmp 10) = v2 from by simp [gB4, gB3, gB2, gB1, gA2]]; exact hr2
        · rw [show B4.eval (.tmp 11) = v1 from by simp [gB4, gB3, gB2, gB1, gA2]]; exact hr1
  · rintro ex a' w' ⟨rfl, Y, i, j, rfl, S, hY, hEY, hYh, hij⟩
    refine ⟨Y, _, rfl, S.toN hbs, hY, hEY, ?_⟩
    rw [hYh, hh, hEE]
    clear r0 r2 r9 r7 e0 hmk hmA y1 y2 y3 y4 hX hE hsz hh hbs S hY hEY hYh hEE
    have hI := hL h64
    have hp3 : 3 ≤ p ∧ p ≤ 41 ∧ p % 2 = 1 := by unfold isL at hI; omega
    obtain ⟨hp, hhp⟩ : ∃ hp : Nat → Hp, hp = fun k => some (.blk [.v (.int .i64 N), .v (.int .u32 p), .v (.int .i64 1), .t 1 1 [.v (.int .u32 b)], .v (.int .u32 a), .v (.int .i64 4), .v (.int .u32 2)]) ::
      (if i = 1 then [some (.arr 2 1 (tab N fun x => if x < k then .v (.int .i64 (rbN p (vs 0 x))) else .v (.int .i64 0)) 0), some (.arr 2 1 (tab N fun x => if x < k then .v (.int .i64 (rbN p (vs 1 x))) else .v (.int .i64 0)) 0)]
        else [some (.arr 2 1 (tab N fun x => if x < k then .v (.int .i64 (rbN p (vs 1 x))) else .v (.int .i64 0)) 0), some (.arr 2 1 (tab N fun x => if x < k then .v (.int .i64 (rbN p (vs 0 x))) else .v (.int .i64 0)) 0)]) := ⟨_, rfl⟩
    obtain ⟨env, henv⟩ : ∃ env : Nat → Ev, env = fun k => [(0, .v (.int .i64 N)), (2, .t 2 1 (tab 2 fun i => .t (ln i) 1 (tab (ln i) fun j => .v (.int .i64 (vs i j))))), (9, .v (.int .i64 p)), (7, .ptr 0 0), (10, .own i N), (11, .own j N), (12, .v (.int .i64 k))] := ⟨_, rfl⟩
    have h8 : ∀ (f : Nat → Int) (k : Nat), (tab N fun x => if x = k then AV.v (.int .i64 (f k)) else if x < k then AV.v (.int .i64 (f x)) else .v (.int .i64 0)) = tab N fun x => if x < k + 1 then AV.v (.int .i64 (f x)) else .v (.int .i64 0) := fun f k => tab_congr fun a ha => by
      by_cases q : a = k
      · subst q; rw [if_pos rfl, if_pos (by omega)]
      · by_cases q2 : a < k
        · rw [if_neg q, if_pos q2, if_pos (by omega)]
        · rw [if_neg q, if_neg q2, if_neg (by omega)]
    have h80 := h8 fun x => rbN p (vs 0 x)
    have h81 := h8 fun x => rbN p (vs 1 x)
    clear h8
    have z0 : ∀ f : Nat → Int, (tab N fun x => if x < 0 then AV.v (.int .i64 (f x)) else .v (.int .i64 0)) = tab N fun _ => .v (.int .i64 0) := fun f => tab_congr fun a _ => if_neg (Nat.not_lt_zero a)
    have hend : ∀ f : Nat → Int, (tab N fun x => if x < N then AV.v (.int .i64 (f x)) else .v (.int .i64 0)) = tab N fun x => .v (.int .i64 (f x)) := fun f => tab_congr fun a ha => if_pos ha
    obtain ⟨I, hIi⟩ : ∃ I, I = i := ⟨_, rfl⟩
    obtain ⟨J, hJj⟩ : ∃ J, J = j := ⟨_, rfl⟩
    rcases hij with ⟨rfl, rfl⟩ | ⟨rfl, rfl⟩
    all_goals
      simp (decide := true) only [reduceIte] at hhp
      simp (maxSteps := 2000000) (disch := first | omega | assumption | (simp only [Wv.Bx, simprocAttr] <;> omega) | fail) only [Wv.B, simprocAttr]
      refine wfor (σ := Nat) env hp (fun k => k ≤ N) (fun k => N - k) 0 (Nat.zero_le _) (by rw [hhp]; simp (maxSteps := 2000000) (disch := first | omega | assumption | (simp only [Wv.Bx, simprocAttr] <;> omega) | fail) only [Wv.B, simprocAttr, z0]) (by rw [henv]; simp (maxSteps := 2000000) (disch := first | omega | assumption | (simp only [Wv.Bx, simprocAttr] <;> omega) | fail) only [Wv.B, simprocAttr]) ?_
      subst henv hhp
      intro k hk
      dsimp only
      by_cases hlt : k < N
      · have e1 : (k : Int) < N := by omega
        have T0 := lbal_tc p (vs 0 k) (by omega) (by omega) (hv 0 (by omega) k (by omega))
        have T1 := lbal_tc p (vs 1 k) (by omega) (by omega) (hv 1 (by omega) k (by omega))
        simp (maxSteps := 2000000) (disch := first | omega | assumption | (simp only [Wv.Bx, simprocAttr] <;> omega) | fail) only [Wv.B, simprocAttr, decide_eq_true e1]
        refine calm_TC T0 rfl (by simp only [Wv.BC]) (by simp only [Wv.BC]) ?_
        simp (maxSteps := 2000000) (disch := first | omega | assumption | (simp only [Wv.Bx, simprocAttr] <;> omega) | fail) only [Wv.B, simprocAttr]
        refine calm_TC T1 rfl (by simp only [Wv.BC]) (by simp only [Wv.BC]) ?_
        simp (maxSteps := 2000000) (disch := first | omega | assumption | (simp only [Wv.Bx, simprocAttr] <;> omega) | fail) only [Wv.B, simprocAttr, tab_set, h80, h81]
        refine k_next (k + 1) (by omega) (by omega) rfl (by simp (maxSteps := 2000000) (disch := first | omega | assumption | (simp only [Wv.Bx, simprocAttr] <;> omega) | fail) only [Wv.B, simprocAttr, Int.natCast_add, Int.natCast_one])
      · obtain rfl : N = k := by omega
        have nC : ∀ s, exC (nmX s) = [.v (.int .i64 1), .v (.string s), .v (.int .i64 0), .t 0 1 [], .t 0 5 []] := fun _ => rfl
        have twC : ∀ k a b, exC (twX k a b) = [.v (.int .i64 k), .v (.string ⟨#[]⟩), .v (.int .i64 0), .t 0 1 [], .t 2 5 (exC a ++ exC b)] := fun k a b => by
          show [_, _, _, _, AV.t 2 5 (exC a ++ (exC b ++ []))] = _
          rw [List.append_nil]; rfl
        have Nx := lname24_tc sx
        have Ny := lname24_tc sy
        have L4 := ltwo_tc 4 (nmX sx) (nmX sy) hx_ok hy_ok
        have L7 := ltwo_tc 7 (nmX sx) (twX 4 (nmX sx) (nmX sy)) hx_ok (twX_ok hx_ok hy_ok)
        have Lxx := ltwo_tc 7 (nmX sx) (nmX sx) hx_ok hx_ok
        have Lyx := ltwo_tc 7 (nmX sy) (nmX sx) hy_ok hx_ok
        have Lr := ltwo_tc 4 (twX 7 (nmX sx) (nmX sx)) (twX 7 (nmX sy) (nmX sx)) (twX_ok hx_ok hx_ok) (twX_ok hy_ok hx_ok)
        have Lq := ltwo_tc 12 (nmX sx) (nmX sy) hx_ok hy_ok
        simp only [twC, nC, List.cons_append, List.nil_append] at Nx Ny L4 L7 Lxx Lyx Lr Lq
        clear twC nC
        simp (maxSteps := 2000000) (disch := first | omega | assumption | (simp only [Wv.Bx, simprocAttr] <;> omega) | fail) only [Wv.B, simprocAttr, Int.lt_irrefl, decide_false, hend]
        refine call_TC Nx rfl (by simp only [Wv.BC]) (by simp only [Wv.BC]) ?_
        simp (maxSteps := 2000000) (disch := first | omega | assumption | (simp only [Wv.Bx, simprocAttr] <;> omega) | fail) only [Wv.B, simprocAttr]
        refine call_TC Ny rfl (by simp only [Wv.BC]) (by simp only [Wv.BC]) ?_
        simp (maxSteps := 2000000) (disch := first | omega | assumption | (simp only [Wv.Bx, simprocAttr] <;> omega) | fail) only [Wv.B, simprocAttr]
        refine calm_TC L4 rfl (by simp only [Wv.BC]) (by simp only [Wv.BC]) ?_
        simp (maxSteps := 2000000) (disch := first | omega | assumption | (simp only [Wv.Bx, simprocAttr] <;> omega) | fail) only [Wv.B, simprocAttr]
        refine calm_TC L7 rfl (by simp only [Wv.BC]) (by simp only [Wv.BC]) ?_
        simp (maxSteps := 2000000) (disch := first | omega | assumption | (simp only [Wv.Bx, simprocAttr] <;> omega) | fail) only [Wv.B, simprocAttr]
        refine calm_TC Lxx rfl (by simp only [Wv.BC]) (by simp only [Wv.BC]) ?_
        simp (maxSteps := 2000000) (disch := first | omega | assumption | (simp only [Wv.Bx, simprocAttr] <;> omega) | fail) only [Wv.B, simprocAttr]
        refine calm_TC Lyx rfl (by simp only [Wv.BC]) (by simp only [Wv.BC]) ?_
        simp (maxSteps := 2000000) (disch := first | omega | assumption | (simp only [Wv.Bx, simprocAttr] <;> omega) | fail) only [Wv.B, simprocAttr]
        refine calm_TC Lr rfl (by simp only [Wv.BC]) (by simp only [Wv.BC]) ?_
        simp (maxSteps := 2000000) (disch := first | omega | assumption | (simp only [Wv.Bx, simprocAttr] <;> omega) | fail) only [Wv.B, simprocAttr]
        refine calm_TC Lq rfl (by simp only [Wv.BC]) (by simp only [Wv.BC]) ?_
        simp (maxSteps := 2000000) (disch := first | omega | assumption | (simp only [Wv.Bx, simprocAttr] <;> omega) | fail) only [Wv.B, simprocAttr]
        obtain ⟨O0, O1, O2, O3, TE, hO1, hO2, hO3⟩ := peval_law hI (fun x => rbN p (vs 0 x)) (fun x => rbN p (vs 1 x)) (fun j _ => rbN_le (by omega) (by omega)) (fun j _ => rbN_le (by omega) (by omega))
        refine call_vd (args2 := [.g (parC (parL N p a b)), .g [.v (.string ⟨#[99]⟩), .t 2 1 [.v (.string sx), .v (.string sy)], .t 4 6 (.v (.string ⟨#[108]⟩) :: exC (twX 7 (nmX sx) (twX 4 (nmX sx) (nmX sy))) ++ (.v (.string ⟨#[114]⟩) :: exC (twX 4 (twX 7 (nmX sx) (nmX sx)) (twX 7 (nmX sy) (nmX sx))) ++ (.v (.string ⟨#[113]⟩) :: exC (twX 12 (nmX sx) (nmX sy)) ++ [.v (.string ⟨#[115]⟩), .v (.int .i64 14), .v (.string ⟨#[]⟩), .v (.int .i64 p), .v (.slice none 0 0), .t 1 5 (exC (nmX sx))]))), .t 4 1 [.v (.string ⟨#[108]⟩), .v (.string ⟨#[114]⟩), .v (.string ⟨#[113]⟩), .v (.string ⟨#[115]⟩)]], .t 2 1 [vcA N (fun x => rbN p (vs 0 x)), vcA N (fun x => rbN p (vs 1 x))]]) 3 TE ?hv ?hw ?hc ?hres ?hK
        case hv =>
          exact List.cons_eq_cons.2 ⟨rfl, List.cons_eq_cons.2 ⟨rfl, List.cons_eq_cons.2 ⟨viewD_two rfl rfl rfl, rfl⟩⟩⟩
        case hw =>
          exact ⟨Wk.refl _, Wk.g ⟨Wk.refl _, Wk.refl _, Wk.t ⟨Wk.refl _, Wk.refl _, Wk.refl _, Wk.refl _, Wk.refl _, Wk.refl _, Wk.refl _, Wk.refl _, Wk.refl _, Wk.refl _, Wk.refl _, Wk.refl _, Wk.refl _, Wk.refl _, Wk.refl _, Wk.refl _, Wk.refl _, Wk.refl _, Wk.refl _, Wk.refl _, Wk.refl _, Wk.refl _, Wk.nil 1, Wk.refl _, trivial⟩, Wk.refl _, trivial⟩, Wk.refl _, trivial⟩
        case hc =>
          refine cloCo (.g (parC_clo _)) (cloCo (.g ?_) (cloCo (.t (cloA2 (vcA_clo _ _) (vcA_clo _ _))) fun a h => by cases h))
          refine cloCo (.v _) (cloCo (by simp only [Wv.BC]) (cloCo (.t ?_) (cloA1 (by simp only [Wv.BC]))))
          exact cloCo (.v _) (cloAp (exC_clo _) (cloCo (.v _) (cloAp (exC_clo _) (cloCo (.v _) (cloAp (exC_clo _) (cloCo (.v _) (cloCo (.v _) (cloCo (.v _) (cloCo (.v _) (cloCo (.v _) (cloA1 (.t (exC_clo _)))))))))))))
        case hres => unfold vcA; simp only [Wv.BC]
        case hK =>
          have S01 := lsame_tc N O0 O1 (by omega) hO1
          have S3 := lsame_tc N O3 (fun x => rbN p (vs 0 x)) (by omega) hO3
          unfold vcA at S01 S3 ⊢
          simp (maxSteps := 2000000) (disch := first | omega | assumption | (simp only [Wv.Bx, simprocAttr] <;> omega) | fail) only [Wv.B, simprocAttr]
          refine wfor (σ := Nat) (fun k => [(0, .v (.int .i64 N)), (16, .t 4 1 [.t N 1 (tab N fun j => .v (.int .i64 (O0 j))), .t N 1 (tab N fun j => .v (.int .i64 (O1 j))), .t N 1 (tab N fun j => .v (.int .i64 (O2 j))), .t N 1 (tab N fun j => .v (.int .i64 (O3 j)))]), (10, .own I N), (11, .own J N), (18, .v (.int .i64 k))]) (fun _ => _) (fun k => k ≤ N) (fun k => N - k) 0 (Nat.zero_le _) rfl (by simp (maxSteps := 2000000) (disch := first | omega | assumption | (simp only [Wv.Bx, simprocAttr] <;> omega) | fail) only [Wv.B, simprocAttr, hIi, hJj]) ?_
          intro k hk
          by_cases hlt : k < N
          · have e1 : (k : Int) < N := by omega
            have h2 := hO2 k hlt
            by_cases heq : rbN p (vs 0 k) = rbN p (vs 1 k)
            · rw [if_pos heq] at h2
              simp (maxSteps := 2000000) (disch := first | omega | assumption | (simp only [Wv.Bx, simprocAttr] <;> omega) | fail) only [Wv.B, simprocAttr, hIi, hJj, decide_eq_true e1, h2, decide_eq_true heq]
              refine k_next (k + 1) (by omega) (by omega) rfl (by simp (maxSteps := 2000000) (disch := first | omega | assumption | (simp only [Wv.Bx, simprocAttr] <;> omega) | fail) only [Wv.B, simprocAttr, hIi, hJj, Int.natCast_add, Int.natCast_one])
            · rw [if_neg heq] at h2
              simp (maxSteps := 2000000) (disch := first | omega | assumption | (simp only [Wv.Bx, simprocAttr] <;> omega) | fail) only [Wv.B, simprocAttr, hIi, hJj, decide_eq_true e1, h2, decide_eq_false heq]
              refine k_next (k + 1) (by omega) (by omega) rfl (by simp (maxSteps := 2000000) (disch := first | omega | assumption | (simp only [Wv.Bx, simprocAttr] <;> omega) | fail) only [Wv.B, simprocAttr, hIi, hJj, Int.natCast_add, Int.natCast_one])
          · obtain rfl : N = k := by omega
            simp (maxSteps := 2000000) (disch := first | omega | assumption | (simp only [Wv.Bx, simprocAttr] <;> omega) | fail) only [Wv.B, simprocAttr, hIi, hJj, Int.lt_irrefl, decide_false]
            refine calm_TC S01 rfl (by simp only [Wv.BC]) (by simp only [Wv.BC]) ?_
            simp (maxSteps := 2000000) (disch := first | omega | assumption | (simp only [Wv.Bx, simprocAttr] <;> omega) | fail) only [Wv.B, simprocAttr]
            refine calm_vd (args2 := [vcA N O3, vcA N (fun x => rbN p (vs 0 x))]) 1 S3 ?hv ?hw ?hc ?hres ?hK
            case hv => exact List.cons_eq_cons.2 ⟨rfl, List.cons_eq_cons.2 ⟨viewD_row rfl rfl, rfl⟩⟩
            case hw => exact ⟨Wk.refl _, Wk.refl _, trivial⟩
            case hc => exact cloA2 (vcA_clo _ _) (vcA_clo _ _)
            case hres => simp only [Wv.BC]
            case hK => simp (maxSteps := 2000000) (disch := first | omega | assumption | (simp only [Wv.Bx, simprocAttr] <;> omega) | fail) only [Wv.B, simprocAttr]
end Go.Proofs.YtljfgdlgmdcmfaaGreat
