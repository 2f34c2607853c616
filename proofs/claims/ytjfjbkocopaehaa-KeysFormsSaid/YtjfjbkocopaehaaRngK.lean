/- KeysForms: the walk. -/
import Derived.Test.YtjfjbkocopaehaaRngJ
namespace Go.Proofs.Ytjfjbkocopaehaa
open Go.RowKit
set_option linter.unusedVariables false

/-- What KeysForms holds. -/
structure PbS (w W : World) (x : Par) (cv : Value) (a b : El) (u v : Value) : Prop where
  box : PbB W w.heap.size x cv a b u v
  sl : SliceAt W cv x.ch
  ru : SliceR W u a.rows
  rv : SliceR W v b.rows
  bel : Below w.heap.size w W
theorem PbS.below {w W W' : World} {x : Par} {cv : Value} {a b : El} {u v : Value} (h : PbS w W x cv a b u v) (hb : Below W.heap.size W W') : PbS w W' x cv a b u v :=
  ⟨h.box.below hb, h.sl.below hb, h.ru.below hb, h.rv.below hb, h.bel.trans (hb.mono h.bel.size)⟩
theorem PbS.drew {w W : World} {x : Par} {cv : Value} {a b : El} {u v : Value} (h : PbS w W x cv a b u v) : PbS w W.drew x cv a b u v := h.below (Below.refl _ _).drew
theorem PbS.new {w : World} {x : Par} {cv : Value} {a b : El} {u v : Value} (hcv : SliceAt w cv x.ch) (hu : SliceR w u a.rows) (hv : SliceR w v b.rows) :
    PbS w ((w.alloc (.cells #[.int .i64 x.n, .int .u32 x.p, .int .i64 x.r, cv, .int .u32 x.sp, .int .i64 x.wt, .int .u32 x.er] 25)).alloc (.cells #[.int .i64 a.lv, .bool a.sp, u, .int .i64 b.lv, .bool b.sp, v] 53)) x cv a b u v := by
  have hbW : Below w.heap.size w ((w.alloc (.cells #[.int .i64 x.n, .int .u32 x.p, .int .i64 x.r, cv, .int .u32 x.sp, .int .i64 x.wt, .int .u32 x.er] 25)).alloc (.cells #[.int .i64 a.lv, .bool a.sp, u, .int .i64 b.lv, .bool b.sp, v] 53)) := ((Below.refl _ _).alloc (Nat.le_refl _) _).alloc (by simp) _
  exact ⟨⟨by constructor <;> simp [go_sem], by simp [go_sem], by simp [go_sem], by simp [go_sem], by simp [go_sem], by simp [go_sem], by simp [go_sem], by simp⟩, hcv.below hbW, hu.below hbW, hv.below hbW, hbW⟩

/-- CheckPublic of both, without the condition on valid parameters. -/
theorem kpub_st {w W : World} {x : Par} {cv : Value} {a b : El} {u v : Value} (hxo : ParOk x) (h : PbS w W x cv a b u v) :
    Calls Try.prog 23 #[x.val cv, pubVal a b u v] W fun r w' => r = .returned (.int .i64 (pubE rPrime x a b)) ∧ PbS w w' x cv a b u v :=
  (kpub_any x cv u v a b W hxo h.sl h.ru h.rv).mono fun r w' ⟨hr, hb⟩ => ⟨by rw [hr, pubE_eq], h.below hb⟩
theorem rpub_st {w W : World} {x : Par} {cv : Value} {a b : El} {u v : Value} (hxo : ParOk x) (h : PbS w W x cv a b u v) :
    Calls Try.prog 24 #[x.val cv, pubVal a b u v] W fun r w' => r = .returned (.int .i64 (pubE rPrime x a b)) ∧ PbS w w' x cv a b u v :=
  (rpub_any x cv u v a b W hxo h.sl h.ru h.rv).mono fun r w' ⟨hr, hb⟩ => ⟨hr, h.below hb⟩
theorem awake_st {w W : World} {x : Par} {cv : Value} {a b : El} {u v : Value} (h : PbS w W x cv a b u v) :
    Calls Try.prog 10 #[] W fun r w' => r = .returned (.bool true) ∧ PbS w w' x cv a b u v :=
  (awake_any W).mono fun r w' ⟨hr, hb⟩ => ⟨hr, h.below hb⟩
theorem large_st {w W : World} {x : Par} {cv : Value} {a b c : El} {u v z : Value} (h : PbS w W x cv a b u v) (hz : SliceR W z c.rows) :
    Calls Try.prog 22 #[.agg #[.int .i64 c.lv, .bool c.sp, z]] W fun r w' => r = .returned (.bool (largeB c.rows)) ∧ PbS w w' x cv a b u v :=
  (large_any z c.lv c.sp c.rows W hz).mono fun r w' ⟨hr, hb⟩ => ⟨hr, h.below hb⟩

set_option maxHeartbeats 2000000 in
set_option maxRecDepth 100000 in
theorem kforms_any (x : Par) (cv u v : Value) (a b : El) (w : World) (hxo : ParOk x) (hcv : SliceAt w cv x.ch) (hu : SliceR w u a.rows) (hv : SliceR w v b.rows) :
    Calls Try.prog 6 #[x.val cv, pubVal a b u v] w fun r w' => r = .returned (.bool true) ∧ Below w.heap.size w w' := by
  have H0 := Lib.hid (PbS.new hcv hu hv)
  have HXO := Lib.hid hxo
  obtain ⟨pc, ccv, rfl⟩ : ∃ pa ca, cv = .slice pa x.ch.length ca := by obtain ⟨p, c, e, _⟩ := hcv; exact ⟨p, c, e⟩
  obtain ⟨pu, cu, rfl⟩ : ∃ pa ca, u = .slice pa a.rows.length ca := by obtain ⟨p, c, e, _⟩ := hu; exact ⟨p, c, e⟩
  obtain ⟨pv, cw, rfl⟩ : ∃ pa ca, v = .slice pa b.rows.length ca := by obtain ⟨p, c, e, _⟩ := hv; exact ⟨p, c, e⟩
  clear hxo hcv hu hv
  unfold Par.val pubVal
  cases hla : largeB a.rows with
  | true =>
    have HA := Lib.hid hla
    clear hla
    go_enter Try.func6, Try.ntmps6
    go_wp2_with fail
    refine (large_st (c := a) H0.out H0.out.ru).mono ?_
    rintro e W1 ⟨rfl, h1⟩
    rw [HA.out]
    have H1 := Lib.hid h1
    clear h1
    have z0 := H1.out.box.e0; have z1 := H1.out.box.e1; have z2 := H1.out.box.e2; have z3 := H1.out.box.e3; have z4 := H1.out.box.e4; have z5 := H1.out.box.e5
    go_wp2_with fail
    refine (awake_st H1.out).mono ?_
    rintro e W2 ⟨rfl, h2⟩
    have H2 := Lib.hid h2
    clear h2
    go_wp2_with fail
    go_ret
    exact ⟨rfl, H2.out.bel⟩
  | false =>
  have HA := Lib.hid hla
  clear hla
  cases hlb : largeB b.rows with
  | true =>
    have HLB := Lib.hid hlb
    clear hlb
    go_enter Try.func6, Try.ntmps6
    go_wp2_with fail
    refine (large_st (c := a) H0.out H0.out.ru).mono ?_
    rintro e W1 ⟨rfl, h1⟩
    rw [HA.out]
    have H1 := Lib.hid h1
    clear h1
    have z0 := H1.out.box.e0; have z1 := H1.out.box.e1; have z2 := H1.out.box.e2; have z3 := H1.out.box.e3; have z4 := H1.out.box.e4; have z5 := H1.out.box.e5
    go_wp2_with fail
    refine (large_st (c := b) H1.out H1.out.rv).mono ?_
    rintro e W2 ⟨rfl, h2⟩
    rw [HLB.out]
    have H2 := Lib.hid h2
    clear h2
    go_wp2_with fail
    refine (awake_st H2.out).mono ?_
    rintro e W3 ⟨rfl, h3⟩
    have H3 := Lib.hid h3
    clear h3
    go_wp2_with fail
    go_ret
    exact ⟨rfl, H3.out.bel⟩
  | false =>
  have HLB := Lib.hid hlb
  clear hlb
  go_enter Try.func6, Try.ntmps6
  go_wp2_with fail
  refine (large_st (c := a) H0.out H0.out.ru).mono ?_
  rintro e W1 ⟨rfl, h1⟩
  rw [HA.out]
  have H1 := Lib.hid h1
  clear h1
  have z0 := H1.out.box.e0; have z1 := H1.out.box.e1; have z2 := H1.out.box.e2; have z3 := H1.out.box.e3; have z4 := H1.out.box.e4; have z5 := H1.out.box.e5
  go_wp2_with fail
  refine (large_st (c := b) H1.out H1.out.rv).mono ?_
  rintro e W2 ⟨rfl, h2⟩
  rw [HLB.out]
  have HS := Lib.hid h2
  clear h2 z0 z1 z2 z3 z4 z5 H1 H0 HA HLB
  obtain ⟨k, hk⟩ : ∃ k, pubE rPrime x a b = k := ⟨_, rfl⟩
  have HK := Lib.hid hk
  clear hk
  go_wp2_with fail
  have y0 := HS.out.box.bp.n; have y1 := HS.out.box.bp.p; have y2 := HS.out.box.bp.r; have y3 := HS.out.box.bp.ch; have y4 := HS.out.box.bp.sp; have y5 := HS.out.box.bp.wt; have y6 := HS.out.box.bp.er
  have z0 := HS.out.box.e0; have z1 := HS.out.box.e1; have z2 := HS.out.box.e2; have z3 := HS.out.box.e3; have z4 := HS.out.box.e4; have z5 := HS.out.box.e5
  go_region_held3 (fun w' => w'.cell? ⟨w.heap.size, 0, none⟩ = some (.int .i64 x.n) ∧ w'.cell? ⟨w.heap.size, 1, none⟩ = some (.int .u32 x.p) ∧ w'.cell? ⟨w.heap.size, 2, none⟩ = some (.int .i64 x.r) ∧ w'.cell? ⟨w.heap.size, 3, none⟩ = some (.slice pc x.ch.length ccv) ∧ w'.cell? ⟨w.heap.size, 4, none⟩ = some (.int .u32 x.sp) ∧ w'.cell? ⟨w.heap.size, 5, none⟩ = some (.int .i64 x.wt) ∧ w'.cell? ⟨w.heap.size, 6, none⟩ = some (.int .u32 x.er) ∧
      w'.cell? ⟨w.heap.size + 1, 0, none⟩ = some (.int .i64 a.lv) ∧ w'.cell? ⟨w.heap.size + 1, 1, none⟩ = some (.bool a.sp) ∧ w'.cell? ⟨w.heap.size + 1, 2, none⟩ = some (.slice pu a.rows.length cu) ∧ w'.cell? ⟨w.heap.size + 1, 3, none⟩ = some (.int .i64 b.lv) ∧ w'.cell? ⟨w.heap.size + 1, 4, none⟩ = some (.bool b.sp) ∧ w'.cell? ⟨w.heap.size + 1, 5, none⟩ = some (.slice pv b.rows.length cw)) (go_keep)
    (first
      | (go_at_call 23; refine (kpub_st HXO.out (by first | exact HS.out | exact HS.out.drew)).mono ?_; rintro e W3 ⟨rfl, h3⟩; rw [HK.out]; have HS := Lib.hid h3; clear h3; have y0 := HS.out.box.bp.n; have y1 := HS.out.box.bp.p; have y2 := HS.out.box.bp.r; have y3 := HS.out.box.bp.ch; have y4 := HS.out.box.bp.sp; have y5 := HS.out.box.bp.wt; have y6 := HS.out.box.bp.er; have z0 := HS.out.box.e0; have z1 := HS.out.box.e1; have z2 := HS.out.box.e2; have z3 := HS.out.box.e3; have z4 := HS.out.box.e4; have z5 := HS.out.box.e5)
      | (go_at_call 24; refine (rpub_st HXO.out (by first | exact HS.out | exact HS.out.drew)).mono ?_; rintro e W3 ⟨rfl, h3⟩; rw [HK.out]; have HS := Lib.hid h3; clear h3; have y0 := HS.out.box.bp.n; have y1 := HS.out.box.bp.p; have y2 := HS.out.box.bp.r; have y3 := HS.out.box.bp.ch; have y4 := HS.out.box.bp.sp; have y5 := HS.out.box.bp.wt; have y6 := HS.out.box.bp.er; have z0 := HS.out.box.e0; have z1 := HS.out.box.e1; have z2 := HS.out.box.e2; have z3 := HS.out.box.e3; have z4 := HS.out.box.e4; have z5 := HS.out.box.e5)
      | (go_at_call 10; refine (awake_st (by first | exact HS.out | exact HS.out.drew)).mono ?_; rintro e W3 ⟨rfl, h3⟩; have HS := Lib.hid h3; clear h3; have y0 := HS.out.box.bp.n; have y1 := HS.out.box.bp.p; have y2 := HS.out.box.bp.r; have y3 := HS.out.box.bp.ch; have y4 := HS.out.box.bp.sp; have y5 := HS.out.box.bp.wt; have y6 := HS.out.box.bp.er; have z0 := HS.out.box.e0; have z1 := HS.out.box.e1; have z2 := HS.out.box.e2; have z3 := HS.out.box.e3; have z4 := HS.out.box.e4; have z5 := HS.out.box.e5))
  all_goals
    go_wp2_with fail
    go_ret
    exact ⟨rfl, HS.out.bel⟩
end Go.Proofs.Ytjfjbkocopaehaa
