/- KeysGroup: the main way. (Printed by gen_GrpE.py.) -/
import Derived.Test.YtjfjbkocopaehaaGrpD
import Derived.Deep.QuietTactic
import Derived.BigQuiet
namespace Go.Proofs.Ytjfjbkocopaehaa
open Go.RowKit

/-- What is held between two calls. -/
structure GrpS (w Z : World) (x : Par) (cv sv : Value) (l : List Int) (gp gs : Nat) (g9 : Nat) (av : Value) (A : List Int) (g11 : Nat) (bv : Value) (B : List Int) : Prop where
  own : Owned w Z x cv sv l gp gs
  c9 : Z.cell? ⟨g9, 0, none⟩ = some av
  sa : SliceZ .i8 Z av A
  l9 : g9 < Z.heap.size
  c11 : Z.cell? ⟨g11, 0, none⟩ = some bv
  sb : SliceZ .i8 Z bv B
  l11 : g11 < Z.heap.size
theorem GrpS.below {w Z Z' : World} {x : Par} {cv sv av bv : Value} {l A B : List Int} {gp gs g9 g11 : Nat} (h : GrpS w Z x cv sv l gp gs g9 av A g11 bv B) (hb : Below Z.heap.size Z Z') : GrpS w Z' x cv sv l gp gs g9 av A g11 bv B :=
  ⟨h.own.below hb, (below_at hb h.l9).trans h.c9, h.sa.below hb, Nat.lt_of_lt_of_le h.l9 hb.size, (below_at hb h.l11).trans h.c11, h.sb.below hb, Nat.lt_of_lt_of_le h.l11 hb.size⟩
/-- Behind the third automorphism: its box too. -/
structure GrpT (w Z : World) (x : Par) (cv sv : Value) (l : List Int) (gp gs : Nat) (g9 : Nat) (av : Value) (A : List Int) (g11 : Nat) (bv : Value) (B : List Int) (g13 : Nat) (dv : Value) : Prop where
  s : GrpS w Z x cv sv l gp gs g9 av A g11 bv B
  c13 : Z.cell? ⟨g13, 0, none⟩ = some dv
  sd : SliceZ .i8 Z dv B
  l13 : g13 < Z.heap.size
theorem GrpT.below {w Z Z' : World} {x : Par} {cv sv av bv dv : Value} {l A B : List Int} {gp gs g9 g11 g13 : Nat} (h : GrpT w Z x cv sv l gp gs g9 av A g11 bv B g13 dv) (hb : Below Z.heap.size Z Z') : GrpT w Z' x cv sv l gp gs g9 av A g11 bv B g13 dv :=
  ⟨h.s.below hb, (below_at hb h.l13).trans h.c13, h.sd.below hb, Nat.lt_of_lt_of_le h.l13 hb.size⟩
theorem GrpT.new {w Z Z' : World} {x : Par} {cv sv av bv : Value} {l A B : List Int} {gp gs g9 g11 n c : Nat} {p : Option Addr} (h : GrpS w Z x cv sv l gp gs g9 av A g11 bv B) (hb : Below Z.heap.size Z Z') (hs : SliceZ .i8 Z' (.slice p n c) B) :
    GrpT w (Z'.alloc (.cells #[.slice p n c] 28)) x cv sv l gp gs g9 av A g11 bv B Z'.heap.size (.slice p n c) :=
  ⟨h.below (hb.alloc hb.size _), by simp [go_sem], hs.below ((Below.refl _ _).alloc (Nat.le_refl _) _), by simp⟩
theorem GrpT.old {w Z Z' : World} {x : Par} {cv sv av bv : Value} {l A B : List Int} {gp gs g9 g11 n c g : Nat} {p : Option Addr} (h : GrpS w Z x cv sv l gp gs g9 av A g11 bv B) (hb : Below Z.heap.size Z Z') (hs : SliceZ .i8 Z' (.slice p n c) B) (hg : Z.heap.size ≤ g) (hc : Z'.cell? ⟨g, 0, none⟩ = some (.slice none 0 0)) :
    GrpT w (Z'.setCell ⟨g, 0, none⟩ (.slice p n c)) x cv sv l gp gs g9 av A g11 bv B g (.slice p n c) :=
  ⟨h.below (hb.setCell hg _), World.cell?_setCell_same _ _ _ hc, hs.set hc _, by have := World.block_lt_of_cell? Z' _ hc; simpa using this⟩
theorem sum_bd {g : Nat → Int} {n : Nat} (h : ∀ q, q < n → -1048576 ≤ g q ∧ g q ≤ 1048576) : ∀ j, j ≤ n → j ≤ 32 → 0 ≤ sumTo (fun q => ab (g q)) j ∧ sumTo (fun q => ab (g q)) j ≤ 33554432 := by
  intro j hj h32
  have H : ∀ i, i ≤ n → 0 ≤ sumTo (fun q => ab (g q)) i ∧ sumTo (fun q => ab (g q)) i ≤ (i : Int) * 1048576 := by
    intro i
    induction i with
    | zero => intro _; simp [sumTo]
    | succ i ih =>
      intro hi
      have h1 := ih (by omega)
      have h2 := h i (by omega)
      simp only [sumTo]
      unfold ab
      unfold ab at h1
      omega
  have := H j hj
  omega
theorem shapeZ {k : IntKind} {w : World} {v : Value} {l : List Int} (h : SliceZ k w v l) : ∃ p c, v = .slice p l.length c := by obtain ⟨p, c, e, _⟩ := h; exact ⟨p, c, e⟩

set_option maxHeartbeats 4000000 in
set_option maxRecDepth 100000 in
theorem kgroup_main (x : Par) (cv sv : Value) (l : List Int) (a b : Int) (w : World) (hx : ParOk x) (hcv : SliceAt w cv x.ch) (hs : SliceZ .i8 w sv l) (hbig : l.length ≤ 200) (hok : chk rPrime x = 0) (hsec : csec mPrime x l = 0) :
    Calls Try.prog 4 #[.agg #[.int .i64 x.n, .int .u32 x.p, .int .i64 x.r, cv, .int .u32 x.sp, .int .i64 x.wt, .int .u32 x.er, sv], .int .i64 a, .int .i64 b] w fun r w' => r = .returned (.bool true) ∧ Below w.heap.size w w' := by
  obtain ⟨okm, hsb⟩ := csec_zero hsec
  have hd0 := okB_dim okm
  obtain ⟨N, hN⟩ : ∃ N : Nat, x.n = N := ⟨x.n.toNat, by omega⟩
  have hdim := dim_of hN (okB_isDim okm)
  have hN4 : 4 ≤ N := by omega
  have hN32 : N ≤ 32 := by omega
  have hwt0 : 1 ≤ x.wt ∧ x.wt ≤ 32 := by
    have h := okm
    unfold okB at h
    simp only [Bool.and_eq_true] at h
    have h2 := h.2.2.2.1
    unfold wtB at h2
    rw [decide_eq_true_eq] at h2
    omega
  have ha0 : 0 ≤ a % (N : Int) := Int.emod_nonneg _ (by omega)
  have ha1 : a % (N : Int) < N := Int.emod_lt_of_pos _ (by omega)
  have hb0 : 0 ≤ b % (N : Int) := Int.emod_nonneg _ (by omega)
  have hb1 : b % (N : Int) < N := Int.emod_lt_of_pos _ (by omega)
  obtain ⟨ka, hka⟩ : ∃ ka : Nat, a % (N : Int) = ka := ⟨(a % (N : Int)).toNat, by omega⟩
  obtain ⟨kb, hkb⟩ : ∃ kb : Nat, b % (N : Int) = kb := ⟨(b % (N : Int)).toNat, by omega⟩
  obtain ⟨k, hk⟩ : ∃ k : Nat, k = 1 + 2 * ka := ⟨_, rfl⟩
  obtain ⟨m, hm⟩ : ∃ m : Nat, m = 1 + 2 * kb := ⟨_, rfl⟩
  have hG := grp_of (k := k) (m := m) hN hdim hsb (by omega) (by omega) (by omega) (by omega)
  generalize turnTo N m (turnTo N k l N) N = B at hG
  generalize turnTo N k l N = A at hG
  generalize (powTo N l 2).take N = L at hG
  generalize (powTo N A 2).take N = M at hG
  have hka2 : ka < N := by omega
  have hkb2 : kb < N := by omega
  have hk2 : k < 2 * N := by omega
  have hm2 : m < 2 * N := by omega
  have hkI : IntKind.i64.wrap (1 + IntKind.i64.wrap (2 * (ka : Int))) = (k : Int) := by simp [IntKind.wrap, IntKind.bits, IntKind.signed]; omega
  have hmI : IntKind.i64.wrap (1 + IntKind.i64.wrap (2 * (kb : Int))) = (m : Int) := by simp [IntKind.wrap, IntKind.bits, IntKind.signed]; omega
  have hkodd : k % 2 = 1 := by omega
  have HKA := Lib.hid hka; have HKB := Lib.hid hkb; have HKI := Lib.hid hkI; have HMI := Lib.hid hmI; have G := Lib.hid hG; have OKM := Lib.hid okm; have HDIM := Lib.hid hdim; have HOD := Lib.hid hkodd; have HWT := Lib.hid hwt0
  have hkm0 : (0 : Int) ≤ (k : Int) * (m : Int) := by rw [← Int.natCast_mul]; exact Int.natCast_nonneg _
  have hkm1 : (k : Int) * (m : Int) ≤ 4096 := by
    rw [← Int.natCast_mul]
    have : k * m ≤ 64 * 64 := Nat.mul_le_mul (by omega) (by omega)
    omega
  have T1 : ∀ (sv : Value) (t : List Int) (q : Int) (W : World), SliceAt W cv x.ch → SliceZ .i8 W sv t → Calls Try.prog 11 #[.agg #[.int .i64 (N : Int), .int .u32 x.p, .int .i64 x.r, cv, .int .u32 x.sp, .int .i64 x.wt, .int .u32 x.er], .agg #[sv], .int .i64 q] W fun r w' => (∃ v, r = .returned (.tuple #[.agg #[v], .int .i64 (turnErr mPrime x t q)]) ∧ SliceZ .i8 w' v (turnList mPrime x t q)) ∧ Below W.heap.size W w' := by
    intro sv t q W h1 h2
    have := turned_any x cv sv t q W hx h1 h2
    unfold Par.val at this
    rw [hN] at this
    exact this
  have P1 : ∀ (sv : Value) (t : List Int) (W : World), SliceAt W cv x.ch → SliceZ .i8 W sv t → Calls Try.prog 17 #[.agg #[.int .i64 (N : Int), .int .u32 x.p, .int .i64 x.r, cv, .int .u32 x.sp, .int .i64 x.wt, .int .u32 x.er], .agg #[sv], .int .i64 2] W fun r w' => (∃ v, r = .returned (.tuple #[v, .int .i64 (powErr mPrime x t 2)]) ∧ SliceZ .i64 w' v (powList mPrime x t 2)) ∧ Below W.heap.size W w' := by
    intro sv t W h1 h2
    have := power_any x cv sv t 2 W hx h1 h2
    unfold Par.val at this
    rw [hN] at this
    exact this
  have T := Lib.hid T1; have PW := Lib.hid P1
  have HC := Lib.hid hok
  have HS := Lib.hid hsec
  have hlen : l.length ≤ 140737488351232 := by omega
  have HNN := Lib.hid hN
  clear hok hsec okm hsb hdim hd0 hkodd hwt0 hka hkb hk hm hkI hmI hG T1 P1 ha0 ha1 hb0 hb1 hN
  obtain ⟨pv, ncv, ccv, rfl⟩ : ∃ pa na ca, cv = .slice pa na ca := by obtain ⟨p, c, e, _⟩ := hcv; exact ⟨p, _, c, e⟩
  obtain ⟨ps, csv, rfl⟩ : ∃ pa ca, sv = .slice pa l.length ca := by obtain ⟨p, c, e, _⟩ := hs; exact ⟨p, c, e⟩
  have HA := Lib.hid (Owned.ofA hcv hs)
  have HB := Lib.hid (Owned.ofB hcv hs)
  clear hcv hs
  go_enter Try.func4, Try.ntmps4
  go_wp2_with fail
  go_region_held3 (fun w' => w'.cell? ⟨w.heap.size, 0, none⟩ = some (.int .i64 x.n) ∧ w'.cell? ⟨w.heap.size, 1, none⟩ = some (.int .u32 x.p) ∧ w'.cell? ⟨w.heap.size, 2, none⟩ = some (.int .i64 x.r) ∧ w'.cell? ⟨w.heap.size, 3, none⟩ = some (.slice pv ncv ccv) ∧ w'.cell? ⟨w.heap.size, 4, none⟩ = some (.int .u32 x.sp) ∧ w'.cell? ⟨w.heap.size, 5, none⟩ = some (.int .i64 x.wt) ∧ w'.cell? ⟨w.heap.size, 6, none⟩ = some (.int .u32 x.er) ∧ w'.cell? ⟨w.heap.size, 7, none⟩ = some (.slice ps l.length csv)) (go_keep) (fail)
  all_goals
    first
      | ((with_reducible show Exit.then _ _ Exit.normal _ ((((w.alloc (.cells #[.int .i64 x.n, .int .u32 x.p, .int .i64 x.r, .slice pv ncv ccv, .int .u32 x.sp, .int .i64 x.wt, .int .u32 x.er, .slice ps l.length csv] 36)).alloc (.cells #[.int .i64 x.n, .int .u32 x.p, .int .i64 x.r, .slice pv ncv ccv, .int .u32 x.sp, .int .i64 x.wt, .int .u32 x.er] 25)).alloc (.cells #[.slice ps l.length csv] 28)).drew)); have HO := HA.out; generalize ((((w.alloc (.cells #[.int .i64 x.n, .int .u32 x.p, .int .i64 x.r, .slice pv ncv ccv, .int .u32 x.sp, .int .i64 x.wt, .int .u32 x.er, .slice ps l.length csv] 36)).alloc (.cells #[.int .i64 x.n, .int .u32 x.p, .int .i64 x.r, .slice pv ncv ccv, .int .u32 x.sp, .int .i64 x.wt, .int .u32 x.er] 25)).alloc (.cells #[.slice ps l.length csv] 28)).drew) = Z at HO ⊢; generalize w.heap.size + 1 + 1 = gs at HO ⊢; generalize w.heap.size + 1 = gp at HO ⊢)
      | ((with_reducible show Exit.then _ _ Exit.normal _ ((((w.alloc (.cells #[.int .i64 x.n, .int .u32 x.p, .int .i64 x.r, .slice pv ncv ccv, .int .u32 x.sp, .int .i64 x.wt, .int .u32 x.er, .slice ps l.length csv] 36)).alloc (.cells #[.slice ps l.length csv] 28)).alloc (.cells #[.int .i64 x.n, .int .u32 x.p, .int .i64 x.r, .slice pv ncv ccv, .int .u32 x.sp, .int .i64 x.wt, .int .u32 x.er] 25)).drew)); have HO := HB.out; generalize ((((w.alloc (.cells #[.int .i64 x.n, .int .u32 x.p, .int .i64 x.r, .slice pv ncv ccv, .int .u32 x.sp, .int .i64 x.wt, .int .u32 x.er, .slice ps l.length csv] 36)).alloc (.cells #[.slice ps l.length csv] 28)).alloc (.cells #[.int .i64 x.n, .int .u32 x.p, .int .i64 x.r, .slice pv ncv ccv, .int .u32 x.sp, .int .i64 x.wt, .int .u32 x.er] 25)).drew) = Z at HO ⊢; generalize w.heap.size + 1 + 1 = gp at HO ⊢; generalize w.heap.size + 1 = gs at HO ⊢)
    clear HA HB
    have y0 := HO.box.n; have y1 := HO.box.p; have y2 := HO.box.r; have y3 := HO.box.ch; have y4 := HO.box.sp; have y5 := HO.box.wt; have y6 := HO.box.er; have ys := HO.cs
    have HZ := Lib.hid HO
    clear HO
    go_wp2_with fail
    refine (rcheck_any x _ _ hx HZ.out.sl).mono ?_
    rintro e w0 ⟨rfl, hb0⟩
    rw [HC.out]
    have HO0 := Lib.hid (HZ.out.below hb0)
    clear hb0 y0 y1 y2 y3 y4 y5 y6 ys HZ
    have y0 := HO0.out.box.n; have y1 := HO0.out.box.p; have y2 := HO0.out.box.r; have y3 := HO0.out.box.ch; have y4 := HO0.out.box.sp; have y5 := HO0.out.box.wt; have y6 := HO0.out.box.er; have ys := HO0.out.cs
    go_wp2_with fail
    refine (csecret_any x _ _ l _ hx HO0.out.sl HO0.out.sz hlen).mono ?_
    rintro e w1 ⟨rfl, hb1⟩
    rw [HS.out]
    have HO1 := Lib.hid (HO0.out.below hb1)
    clear hb1 y0 y1 y2 y3 y4 y5 y6 ys HO0
    have hN := HNN.out
    have y0 := HO1.out.box.n; rw [hN] at y0
    have y1 := HO1.out.box.p
    have y2 := HO1.out.box.r
    have y3 := HO1.out.box.ch
    have y4 := HO1.out.box.sp
    have y5 := HO1.out.box.wt
    have y6 := HO1.out.box.er
    have ys := HO1.out.cs
    clear hN
    go_wp2_with fail
    go_region_held3 (fun w' => w'.cell? ⟨gp, 0, none⟩ = some (.int .i64 (N : Int))) (go_keep) (first | (go_at_call 16; refine (pick_any _ N _ (by omega) (by omega)).mono ?_; rintro e w' ⟨rfl, rfl⟩; first | rw [HKA.out] | rw [HKB.out]))
    rw [HKI.out, HMI.out]
    have HO2 : Hid (Owned w w1.drew x _ _ l gp gs) := HO1.out.below (Below.refl _ _).drew
    clear HO1
    go_wp2_with fail
    refine (T.out _ l _ _ HO2.out.sl HO2.out.sz).mono ?_
    rintro e w2 ⟨⟨av, rfl, hav⟩, hb2⟩
    rw [(G.out.ta mPrime OKM.out).1] at hav
    rw [(G.out.ta mPrime OKM.out).2]
    obtain ⟨pA, cA, rfl⟩ := shapeZ hav
    have HO3 := Lib.hid (HO2.out.below hb2)
    have HA3 := Lib.hid hav
    clear hb2 hav HO2 y0 y1 y2 y3 y4 y5 y6 ys
    have hN := HNN.out
    have z0 := HO3.out.box.n; rw [hN] at z0
    have z1 := HO3.out.box.p
    have z2 := HO3.out.box.r
    have z3 := HO3.out.box.ch
    have z4 := HO3.out.box.sp
    have z5 := HO3.out.box.wt
    have z6 := HO3.out.box.er
    have zs := HO3.out.cs; have l1 := HO3.out.lp; have l2 := HO3.out.ls
    clear hN
    go_wp2_with fail
    have HS4 : Hid (Owned w (w2.alloc (.cells #[.slice pA A.length cA] 28)) x _ _ l gp gs ∧ SliceZ .i8 (w2.alloc (.cells #[.slice pA A.length cA] 28)) (.slice pA A.length cA) A ∧ (w2.alloc (.cells #[.slice pA A.length cA] 28)).cell? ⟨w2.heap.size, 0, none⟩ = some (.slice pA A.length cA) ∧ w2.heap.size < (w2.alloc (.cells #[.slice pA A.length cA] 28)).heap.size) :=
      ⟨HO3.out.below ((Below.refl _ _).alloc (Nat.le_refl _) _), HA3.out.below ((Below.refl _ _).alloc (Nat.le_refl _) _), by simp [go_sem], by simp⟩
    clear HO3 HA3 z0 z1 z2 z3 z4 z5 z6 zs l1 l2
    generalize (w2.alloc (.cells #[.slice pA A.length cA] 28)) = Z2 at HS4 ⊢
    generalize w2.heap.size = g9 at HS4 ⊢
    generalize Value.slice pA A.length cA = av at HS4 ⊢
    refine (T.out _ A _ _ HS4.out.1.sl HS4.out.2.1).mono ?_
    rintro e w3 ⟨⟨bv, rfl, hbv⟩, hb3⟩
    rw [(G.out.tb mPrime OKM.out).1] at hbv
    rw [(G.out.tb mPrime OKM.out).2]
    obtain ⟨pB, cB, rfl⟩ := shapeZ hbv
    have HO5 := Lib.hid (HS4.out.1.below hb3)
    have HA5 := Lib.hid (HS4.out.2.1.below hb3)
    have HC5 := Lib.hid ((below_at hb3 HS4.out.2.2.2).trans HS4.out.2.2.1)
    have HL5 := Nat.lt_of_lt_of_le HS4.out.2.2.2 hb3.size
    have HB5 := Lib.hid hbv
    clear hb3 hbv HS4
    go_wp2_with fail
    have ha5 := ((Below.refl _ w3).alloc (Nat.le_refl _) (.cells #[.slice pB B.length cB] 28))
    have HS6 : Hid (GrpS w (w3.alloc (.cells #[.slice pB B.length cB] 28)) x _ _ l gp gs g9 av A w3.heap.size (.slice pB B.length cB) B) :=
      ⟨HO5.out.below ha5, (below_at ha5 HL5).trans HC5.out, HA5.out.below ha5, by simp; omega, by simp [go_sem], HB5.out.below ha5, by simp⟩
    clear HO5 HA5 HC5 HL5 HB5 ha5
    generalize (w3.alloc (.cells #[.slice pB B.length cB] 28)) = Z3 at HS6 ⊢
    generalize w3.heap.size = g11 at HS6 ⊢
    generalize Value.slice pB B.length cB = bv at HS6 ⊢
    have hN := HNN.out
    have u0 := HS6.out.own.box.n; rw [hN] at u0
    have u1 := HS6.out.own.box.p
    have u2 := HS6.out.own.box.r
    have u3 := HS6.out.own.box.ch
    have u4 := HS6.out.own.box.sp
    have u5 := HS6.out.own.box.wt
    have u6 := HS6.out.own.box.er
    have qs := HS6.out.own.cs
    clear hN
    have l1 := HS6.out.own.lp; have l2 := HS6.out.own.ls
    have e1 : IntKind.i64.wrap ((k : Int) * (m : Int)) = (k : Int) * (m : Int) := by simp [IntKind.wrap, IntKind.bits, IntKind.signed]; omega
    have e2 : IntKind.i64.wrap (2 * (N : Int)) = 2 * (N : Int) := by simp [IntKind.wrap, IntKind.bits, IntKind.signed]; omega
    have e3 : ((k : Int) * (m : Int)).tmod (2 * (N : Int)) = (k : Int) * (m : Int) % (2 * (N : Int)) := Int.tmod_eq_emod_of_nonneg hkm0
    have e5 : ¬ (2 * (N : Int) = 0) := by omega
    go_region_held3 (fun w' => w'.cell? ⟨gp, 0, none⟩ = some (.int .i64 (N : Int)) ∧ w'.cell? ⟨gp, 1, none⟩ = some (.int .u32 x.p) ∧ w'.cell? ⟨gp, 2, none⟩ = some (.int .i64 x.r) ∧ w'.cell? ⟨gp, 3, none⟩ = some (.slice pv ncv ccv) ∧ w'.cell? ⟨gp, 4, none⟩ = some (.int .u32 x.sp) ∧ w'.cell? ⟨gp, 5, none⟩ = some (.int .i64 x.wt) ∧ w'.cell? ⟨gp, 6, none⟩ = some (.int .u32 x.er) ∧ w'.cell? ⟨gs, 0, none⟩ = some (.slice ps l.length csv)) (go_keep) (first | (go_at_call 11; refine (T.out _ l _ _ (by first | exact HS6.out.own.sl.below (Below.refl _ _).drew | exact HS6.out.own.sl.below (((Below.refl _ _).alloc (Nat.le_refl _) _).drew)) (by first | exact HS6.out.own.sz.below (Below.refl _ _).drew | exact HS6.out.own.sz.below (((Below.refl _ _).alloc (Nat.le_refl _) _).drew))).mono ?_; rintro e W6 ⟨⟨dv, rfl, hdv⟩, hb6⟩; rw [(G.out.tc mPrime OKM.out).1] at hdv; obtain ⟨pD, cD, rfl⟩ := shapeZ hdv; have q6 : Below Z3.heap.size Z3 W6 := below_then hb6 (by first | exact (Below.refl _ _).drew | exact ((Below.refl _ _).alloc (Nat.le_refl _) _).drew) (by simp); have k0 := (below_at q6 l1).trans u0; have k1 := (below_at q6 l1).trans u1; have k2 := (below_at q6 l1).trans u2; have k3 := (below_at q6 l1).trans u3; have k4 := (below_at q6 l1).trans u4; have k5 := (below_at q6 l1).trans u5; have k6 := (below_at q6 l1).trans u6; have k7 := (below_at q6 l2).trans qs; have hgW6 : gp < W6.heap.size := Nat.lt_of_lt_of_le l1 q6.size; have hsW6 : gs < W6.heap.size := Nat.lt_of_lt_of_le l2 q6.size; have hn1 : gp ≠ Z3.heap.size := Nat.ne_of_lt l1; have hn2 : Z3.heap.size ≠ gp := Ne.symm hn1; have hn3 : gs ≠ Z3.heap.size := Nat.ne_of_lt l2; have hn4 : Z3.heap.size ≠ gs := Ne.symm hn3; (try (have hz6 : Z3.heap.size < W6.heap.size := (by have h := hb6.size; simp at h; omega))); obtain ⟨hc6, hf6⟩ := bcell hb6; have HD6 := Lib.hid hdv; have HQ6 := Lib.hid q6; clear hdv hb6 q6))
    clear e1 e2 e3 e5 u0 u1 u2 u3 u4 u5 u6 qs l1 l2
    all_goals
      rw [(G.out.tc mPrime OKM.out).2]
      first
        | ((with_reducible show Exit.then _ _ Exit.normal _ (W6.alloc (.cells #[.slice pD B.length cD] 28))); have HT := GrpT.new HS6.out HQ6.out HD6.out; generalize (W6.alloc (.cells #[.slice pD B.length cD] 28)) = Z4 at HT ⊢; generalize W6.heap.size = g13 at HT ⊢)
        | ((with_reducible show Exit.then _ _ Exit.normal _ (W6.setCell ⟨Z3.heap.size, 0, none⟩ (.slice pD B.length cD))); have HT := GrpT.old HS6.out HQ6.out HD6.out (Nat.le_refl _) (by rw [hc6 _ _ (by simp)]; simp [go_sem]); generalize (W6.setCell ⟨Z3.heap.size, 0, none⟩ (.slice pD B.length cD)) = Z4 at HT ⊢; generalize Z3.heap.size = g13 at HT ⊢)
      generalize Value.slice pD B.length cD = dv at HT ⊢
      clear hc6 hf6 HD6 HQ6 HS6 k0 k1 k2 k3 k4 k5 k6 k7 hn1 hn2 hn3 hn4 hgW6 hsW6
      have H8 := Lib.hid HT
      clear HT
      have hN := HNN.out
      have y0 := H8.out.s.own.box.n; rw [hN] at y0
      have y1 := H8.out.s.own.box.p
      have y2 := H8.out.s.own.box.r
      have y3 := H8.out.s.own.box.ch
      have y4 := H8.out.s.own.box.sp
      have y5 := H8.out.s.own.box.wt
      have y6 := H8.out.s.own.box.er
      have ys := H8.out.s.own.cs
      clear hN
      go_wp2_with fail
      refine (PW.out _ l _ H8.out.s.own.sl H8.out.s.own.sz).mono ?_
      rintro e w8 ⟨⟨lv, rfl, hlv⟩, hb8⟩
      rw [(G.out.pl mPrime OKM.out).1] at hlv
      rw [(G.out.pl mPrime OKM.out).2]
      have H9 := Lib.hid (H8.out.below hb8)
      have HL9 := Lib.hid hlv
      clear hb8 hlv H8 y0 y1 y2 y3 y4 y5 y6 ys
      have hN := HNN.out
      have z0 := H9.out.s.own.box.n; rw [hN] at z0
      have z1 := H9.out.s.own.box.p
      have z2 := H9.out.s.own.box.r
      have z3 := H9.out.s.own.box.ch
      have z4 := H9.out.s.own.box.sp
      have z5 := H9.out.s.own.box.wt
      have z6 := H9.out.s.own.box.er
      have zc := H9.out.s.c9
      clear hN
      go_wp2_with fail
      refine (PW.out _ A _ H9.out.s.own.sl H9.out.s.sa).mono ?_
      rintro e w9 ⟨⟨mv, rfl, hmv⟩, hb9⟩
      rw [(G.out.pm mPrime OKM.out).1] at hmv
      rw [(G.out.pm mPrime OKM.out).2]
      have H10 := Lib.hid (H9.out.below hb9)
      have HL10 := Lib.hid (HL9.out.below hb9)
      have HM10 := Lib.hid hmv
      clear hb9 hmv H9 HL9 z0 z1 z2 z3 z4 z5 z6 zc
      have x11 := H10.out.s.c11
      have x13 := H10.out.c13
      go_wp2_with fail
      refine (sames_any _ _ _ B B H10.out.s.sb H10.out.sd).mono ?_
      rintro e w10 ⟨rfl, hb10⟩
      rw [decide_eq_true rfl]
      have H11 := Lib.hid (H10.out.s.own.below hb10)
      have HL11 := Lib.hid (HL10.out.below hb10)
      have HM11 := Lib.hid (HM10.out.below hb10)
      clear hb10 x11 x13 H10 HL10 HM10
      obtain ⟨pl, cl, rfl, hl1, hl2, hrl⟩ := HL11.out
      obtain ⟨pm, cm, rfl, hm1, hm2, hrm⟩ := HM11.out
      have hLN := G.out.ll
      have hMN := G.out.lm
      obtain ⟨bl, ol, rfl, hRL⟩ := hrl (by intro e; rw [e] at hLN; simp at hLN; omega)
      obtain ⟨bm, om, rfl, hRM⟩ := hrm (by intro e; rw [e] at hMN; simp at hMN; omega)
      rw [hLN, hMN]
      have HLN := Lib.hid hLN; have HMN := Lib.hid hMN; have HRL := Lib.hid hRL; have HRM := Lib.hid hRM
      clear hLN hMN hRL hRM hrl hrm hl1 hl2 hm1 hm2 HL11 HM11
      have y0 := H11.out.box.n
      rw [HNN.out] at y0
      go_wp2_with fail
      go_loopw [19, 20] (fun vs vj wr => ∃ j : Nat, vj = .int .i64 j ∧ j ≤ N ∧ vs = .int .i64 (sumTo (fun q => ab (sq N l q)) j) ∧ Hid (Below w10.heap.size w10 wr)) (fun _ vj _ => N - (intOf vj).toNat)
      case atStart => exact ⟨0, rfl, by omega, rfl, Below.refl _ _⟩
      case round =>
        obtain ⟨j, rfl, hj, rfl, hbj⟩ := hrel
        have v0 := (below_at hbj.out H11.out.lp).trans y0
        by_cases hlt : j < N
        · obtain ⟨z, hz⟩ : ∃ z, sq N l j = z := ⟨_, rfl⟩
          have hat := G.out.at_ j hlt
          have hzb := G.out.bd j hlt
          rw [hz] at hat hzb
          have hS0 : 0 ≤ sumTo (fun q => ab (sq N l q)) j ∧ sumTo (fun q => ab (sq N l q)) j ≤ 33554432 := sum_bd (fun q hq => G.out.bd q (by omega)) j (by omega) (by omega)
          have hSn : Hid (sumTo (fun q => ab (sq N l q)) (j + 1) = sumTo (fun q => ab (sq N l q)) j + ab z) := by show _ = _; rw [sumTo, hz]
          obtain ⟨t, ht⟩ : ∃ t : Nat, t = j * k % (2 * N) := ⟨_, rfl⟩
          have hatI : (j : Int) * (k : Int) % (2 * (N : Int)) = (t : Int) := by rw [ht]; simp
          have ht2 : t < 2 * N := by rw [ht]; exact Nat.mod_lt _ (by omega)
          have hjk0 : (0 : Int) ≤ (j : Int) * (k : Int) := by rw [← Int.natCast_mul]; exact Int.natCast_nonneg _
          have hjk1 : (j : Int) * (k : Int) ≤ 4096 := by
            rw [← Int.natCast_mul]
            have : j * k ≤ 64 * 64 := Nat.mul_le_mul (by omega) (by omega)
            omega
          have xl : wr.cell? ⟨bl, ol + j, none⟩ = some (.int .i64 z) := by
            have h := (HRL.out.below hbj.out HRL.out.blk).cell j (by rw [HLN.out]; exact hlt)
            rw [h, ← hat.1, List.getD_eq_getElem?_getD, List.getElem?_eq_getElem (by rw [HLN.out]; exact hlt)]; rfl
          have i0 : (0 : Int) ≤ (j : Int) := by omega
          have i1 : (j : Int) < (N : Int) := by omega
          have w1' : IntKind.i64.wrap (-z) = -z := by simp [IntKind.wrap, IntKind.bits, IntKind.signed]; omega
          obtain ⟨S, hSS⟩ : ∃ S, sumTo (fun q => ab (sq N l q)) j = S := ⟨_, rfl⟩
          rw [hSS] at hS0 hSn ⊢
          have hS1 : IntKind.i64.wrap (S + max z (-z)) = S + max z (-z) := by simp [IntKind.wrap, IntKind.bits, IntKind.signed]; omega
          have hpj : Hid (pos N k j = if t < N then t else t - N) := by show _ = _; unfold pos; rw [← ht]
          have hsj : Hid (sgn N k j = if t < N then 1 else -1) := by show _ = _; unfold sgn; rw [← ht]
          have hM := Lib.hid hat.2
          clear ht hz hat hSS
          by_cases htn : t < N
          · have xm : wr.cell? ⟨bm, om + t, none⟩ = some (.int .i64 z) := by
              have h := (HRM.out.below hbj.out HRM.out.blk).cell t (by rw [HMN.out]; exact htn)
              have h2 := hM.out
              rw [hpj.out, hsj.out, if_pos htn, if_pos htn, Int.one_mul, List.getD_eq_getElem?_getD, List.getElem?_eq_getElem (by rw [HMN.out]; exact htn)] at h2
              rw [h, ← h2]; rfl
            have d1 : decide ((t : Int) < (N : Int)) = true := decide_eq_true (by omega)
            have d2 : decide ((N : Int) ≤ (t : Int)) = false := decide_eq_false (by omega)
            have d1n : decide (t < N) = true := decide_eq_true htn
            have d2n : decide (N ≤ t) = false := decide_eq_false (by omega)
            have i2 : (0 : Int) ≤ (t : Int) := by omega
            have i3 : (t : Int) < (N : Int) := by omega
            have dz : (z != z) = false := by simp
            clear hpj hsj hM
            go_wp2_with fail
            go_quiet (fail)
            go_wp2_with fail
            go_quiet (fail)
            go_wp2_with fail
            go_roundw
            case rel => exact ⟨j + 1, by go_num, by omega, by rw [hSn.out]; rfl, below_drewN hbj.out _⟩
            case measure => simp [intOf]; omega
          · obtain ⟨u, hu⟩ : ∃ u : Nat, u = t - N := ⟨_, rfl⟩
            have xm : wr.cell? ⟨bm, om + u, none⟩ = some (.int .i64 (-z)) := by
              have h := (HRM.out.below hbj.out HRM.out.blk).cell u (by rw [HMN.out]; omega)
              have h2 := hM.out
              rw [hpj.out, hsj.out, if_neg htn, if_neg htn, Int.neg_one_mul, ← hu, List.getD_eq_getElem?_getD, List.getElem?_eq_getElem (by rw [HMN.out]; omega)] at h2
              rw [h, ← h2]; rfl
            have huI : IntKind.i64.wrap ((t : Int) - (N : Int)) = (u : Int) := by simp [IntKind.wrap, IntKind.bits, IntKind.signed]; omega
            have i2 : (0 : Int) ≤ (u : Int) := by omega
            have i3 : (u : Int) < (N : Int) := by omega
            have d1 : decide ((t : Int) < (N : Int)) = false := decide_eq_false (by omega)
            have d2 : decide ((N : Int) ≤ (t : Int)) = true := decide_eq_true (by omega)
            have d1n : decide (t < N) = false := decide_eq_false htn
            have d2n : decide (N ≤ t) = true := decide_eq_true (by omega)
            have dz : (-z != -z) = false := by simp
            clear hpj hsj hM hu
            go_wp2_with fail
            go_quiet (fail)
            go_wp2_with fail
            go_quiet (fail)
            go_wp2_with fail
            go_roundw
            case rel => exact ⟨j + 1, by go_num, by omega, by rw [hSn.out]; rfl, below_drewN hbj.out _⟩
            case measure => simp [intOf]; omega
        · obtain rfl : j = N := by omega
          have hsu := G.out.su
          obtain ⟨S, hSS⟩ : ∃ S, sumTo (fun q => ab (sq j l q)) j = S := ⟨_, rfl⟩
          rw [hSS] at hsu ⊢
          clear hSS
          have hw := HWT.out
          have hww0 : 0 ≤ x.wt * x.wt := Int.mul_nonneg (by omega) (by omega)
          have hww1 : x.wt * x.wt ≤ 32 * 32 := Int.mul_le_mul (by omega) (by omega) (by omega) (by omega)
          have hle : decide (S ≤ x.wt * x.wt) = true := decide_eq_true hsu
          have v5 := (below_at hbj.out H11.out.lp).trans H11.out.box.wt
          have hlt' : ¬ ((j : Int) < (j : Int)) := by omega
          go_wp2_with fail
          refine (awake_any _).mono ?_
          rintro e w12 ⟨rfl, hb12⟩
          have hbF := Lib.hid (below_then hb12 (H11.out.bel.trans (hbj.out.mono H11.out.bel.size)) (Nat.le_trans H11.out.bel.size hbj.out.size))
          clear hb12
          go_wp2_with fail
          go_ret
          exact ⟨rfl, hbF.out⟩
end Go.Proofs.Ytjfjbkocopaehaa
