/- ParamsChecks: the walk. -/
import Derived.Test.YtjfjbkocopaehaaWidM
namespace Go.Proofs.Ytjfjbkocopaehaa
open Go.RowKit
set_option linter.unusedVariables false

theorem prod_one (x : Par) (k : Int) : ∃ (S : ByteArray) (er : Int), (∀ e, ProdRet mPrime x k e → e = .returned (.tuple #[.agg #[.bool false, .string S], .int .i64 er])) ∧ (∀ e, ProdRet rPrime x k e → e = .returned (.tuple #[.agg #[.bool false, .string S], .int .i64 er])) := by
  by_cases h : ∃ n, ND 256 (prodN x.ch k.toNat) n
  · obtain ⟨n, hn⟩ := h
    cases hp : prodB mPrime x k with
    | false =>
      have hp2 := hp; rw [prodB_eq] at hp2
      refine ⟨⟨#[]⟩, 2, ?_, ?_⟩
      · rintro e (⟨_, rfl⟩ | ⟨h, _⟩)
        · rfl
        · rw [hp] at h; cases h
      · rintro e (⟨_, rfl⟩ | ⟨h, _⟩)
        · rfl
        · rw [hp2] at h; cases h
    | true =>
      have hp2 := hp; rw [prodB_eq] at hp2
      refine ⟨beS (prodN x.ch k.toNat) n, 0, ?_, ?_⟩
      · rintro e (⟨h, _⟩ | ⟨_, m, hm, rfl⟩)
        · rw [hp] at h; cases h
        · rw [hn.uniq (by decide) hm]
      · rintro e (⟨h, _⟩ | ⟨_, m, hm, rfl⟩)
        · rw [hp2] at h; cases h
        · rw [hn.uniq (by decide) hm]
  · refine ⟨⟨#[]⟩, 2, ?_, ?_⟩
    · rintro e (⟨_, rfl⟩ | ⟨_, m, hm, _⟩)
      · rfl
      · exact absurd ⟨m, hm⟩ h
    · rintro e (⟨_, rfl⟩ | ⟨_, m, hm, _⟩)
      · rfl
      · exact absurd ⟨m, hm⟩ h

/-- What the law holds. -/
structure LawS (w W : World) (x : Par) (cv : Value) : Prop where
  box : BoxP W w.heap.size x cv
  sl : SliceAt W cv x.ch
  bel : Below w.heap.size w W
  lt : w.heap.size < W.heap.size
theorem LawS.below {w W W' : World} {x : Par} {cv : Value} (h : LawS w W x cv) (hb : Below W.heap.size W W') : LawS w W' x cv :=
  ⟨h.box.below hb h.lt, h.sl.below hb, h.bel.trans (hb.mono h.bel.size), Nat.lt_of_lt_of_le h.lt hb.size⟩

structure LawT (w W : World) (x : Par) (cv : Value) (ga gb : Nat) (S : ByteArray) : Prop where
  l : LawS w W x cv
  k0 : W.cell? ⟨ga, 0, none⟩ = some (.bool false)
  k1 : W.cell? ⟨ga, 1, none⟩ = some (.string S)
  j0 : W.cell? ⟨gb, 0, none⟩ = some (.bool false)
  j1 : W.cell? ⟨gb, 1, none⟩ = some (.string S)
  kl : ga < W.heap.size
  jl : gb < W.heap.size
theorem LawT.below {w W W' : World} {x : Par} {cv : Value} {ga gb : Nat} {S : ByteArray} (h : LawT w W x cv ga gb S) (hb : Below W.heap.size W W') : LawT w W' x cv ga gb S :=
  ⟨h.l.below hb, (below_at hb h.kl).trans h.k0, (below_at hb h.kl).trans h.k1, (below_at hb h.jl).trans h.j0, (below_at hb h.jl).trans h.j1, Nat.lt_of_lt_of_le h.kl hb.size, Nat.lt_of_lt_of_le h.jl hb.size⟩
theorem LawT.drew {w W : World} {x : Par} {cv : Value} {ga gb : Nat} {S : ByteArray} (h : LawT w W x cv ga gb S) : LawT w W.drew x cv ga gb S := h.below (Below.refl _ _).drew
theorem pcheck_st {w W : World} {x : Par} {cv : Value} {ga gb : Nat} {S : ByteArray} (h : LawT w W x cv ga gb S) (hx : ParOk x) :
    Calls Try.prog 38 #[x.val cv] W fun r w' => r = .returned (.int .i64 (chk mPrime x)) ∧ LawT w w' x cv ga gb S :=
  (pcheck_any x cv W hx h.l.sl).mono fun r w' ⟨h1, hb⟩ => ⟨h1, h.below hb⟩
theorem rcheck_st {w W : World} {x : Par} {cv : Value} {ga gb : Nat} {S : ByteArray} (h : LawT w W x cv ga gb S) (hx : ParOk x) :
    Calls Try.prog 14 #[x.val cv] W fun r w' => r = .returned (.int .i64 (chk mPrime x)) ∧ LawT w w' x cv ga gb S :=
  (rcheck_any x cv W hx h.l.sl).mono fun r w' ⟨h1, hb⟩ => ⟨by rw [h1]; unfold chk; rw [okB_eq], h.below hb⟩

set_option maxHeartbeats 4000000 in
set_option maxRecDepth 100000 in
theorem pchecks_any (x : Par) (cv : Value) (e lv : Int) (w : World) (hx : ParOk x) (hcv : SliceAt w cv x.ch) (hl0 : -9223372036854775808 ≤ lv) (hl1 : lv ≤ 9223372036854775807) :
    Calls Try.prog 8 #[x.val cv, .int .i64 e, .int .i64 lv] w fun r w' => r = .returned (.bool true) ∧ Below w.heap.size w w' := by
  have hbW : Below w.heap.size w (w.alloc (.cells #[.int .i64 x.n, .int .u32 x.p, .int .i64 x.r, cv, .int .u32 x.sp, .int .i64 x.wt, .int .u32 x.er] 25)) := (Below.refl _ _).alloc (Nat.le_refl _) _
  have hL : LawS w (w.alloc (.cells #[.int .i64 x.n, .int .u32 x.p, .int .i64 x.r, cv, .int .u32 x.sp, .int .i64 x.wt, .int .u32 x.er] 25)) x cv := ⟨by constructor <;> simp [go_sem], hcv.below hbW, hbW, by simp⟩
  have HL := Lib.hid hL
  obtain ⟨pa, cap, rfl⟩ := sliceAt_shape hcv
  obtain ⟨S, er, hS1, hS2⟩ := prod_one x lv
  have HS1 := Lib.hid hS1; have HS2 := Lib.hid hS2
  have HEQ : Hid (chk mPrime x = chk rPrime x ∧ modVal mPrime x e = modVal rPrime x e ∧ modErr mPrime x e = modErr rPrime x e) := ⟨by unfold chk; rw [okB_eq], modVal_eq x e, modErr_eq x e⟩
  clear hL hbW hcv hS1 hS2
  unfold Par.val
  go_enter Try.func8, Try.ntmps8
  go_wp2_with fail
  refine (shown_any _).mono ?_
  rintro r w1 ⟨rfl, hb1⟩
  have HL1 := Lib.hid (HL.out.below hb1)
  clear hb1 HL
  have y0 := HL1.out.box.n; have y1 := HL1.out.box.p; have y2 := HL1.out.box.r; have y3 := HL1.out.box.ch; have y4 := HL1.out.box.sp; have y5 := HL1.out.box.wt; have y6 := HL1.out.box.er
  by_cases hlen : 100 < x.ch.length
  · have d1 : decide ((100 : Int) < (x.ch.length : Int)) = true := decide_eq_true (by omega)
    go_wp2_with fail
    go_ret
    exact ⟨rfl, HL1.out.bel⟩
  · have d1 : decide ((100 : Int) < (x.ch.length : Int)) = false := decide_eq_false (by omega)
    go_wp2_with (first
      | (go_at_call 34; refine (pmod_any x _ e _ hx HL1.out.sl).mono ?_; rintro r W2 ⟨rfl, hb2⟩; have HL1 := Lib.hid (HL1.out.below hb2); clear hb2 y0 y1 y2 y3 y4 y5 y6; have y0 := HL1.out.box.n; have y1 := HL1.out.box.p; have y2 := HL1.out.box.r; have y3 := HL1.out.box.ch; have y4 := HL1.out.box.sp; have y5 := HL1.out.box.wt; have y6 := HL1.out.box.er)
      | (go_at_call 35; refine (rmod_any x _ e _ hx HL1.out.sl).mono ?_; rintro r W2 ⟨rfl, hb2⟩; have HL1 := Lib.hid (HL1.out.below hb2); clear hb2 y0 y1 y2 y3 y4 y5 y6; have y0 := HL1.out.box.n; have y1 := HL1.out.box.p; have y2 := HL1.out.box.r; have y3 := HL1.out.box.ch; have y4 := HL1.out.box.sp; have y5 := HL1.out.box.wt; have y6 := HL1.out.box.er)
      | (go_at_call 36; refine (pprod_any x _ lv _ hx HL1.out.sl hl0 hl1).mono ?_; rintro r W2 ⟨hp, hb2⟩; obtain rfl := HS1.out _ hp; have HL1 := Lib.hid ((HL1.out.below hb2).below ((Below.refl _ _).alloc (Nat.le_refl _) (.cells #[.bool false, .string S] 69))); clear hp hb2 y0 y1 y2 y3 y4 y5 y6; have y0 := HL1.out.box.n; have y1 := HL1.out.box.p; have y2 := HL1.out.box.r; have y3 := HL1.out.box.ch; have y4 := HL1.out.box.sp; have y5 := HL1.out.box.wt; have y6 := HL1.out.box.er))
    have c0 : (W2.alloc (.cells #[.bool false, .string S] 69)).cell? ⟨W2.heap.size, 0, none⟩ = some (.bool false) := by simp [go_sem]
    have c1 : (W2.alloc (.cells #[.bool false, .string S] 69)).cell? ⟨W2.heap.size, 1, none⟩ = some (.string S) := by simp [go_sem]
    have cl : W2.heap.size < (W2.alloc (.cells #[.bool false, .string S] 69)).heap.size := by simp
    rw [HEQ.out.2.1, HEQ.out.2.2]
    generalize (W2.alloc (.cells #[.bool false, .string S] 69)) = Wa at HL1 c0 c1 cl y0 y1 y2 y3 y4 y5 y6 ⊢
    generalize W2.heap.size = ga at c0 c1 cl ⊢
    refine (rprod_any x _ lv _ hx HL1.out.sl hl0 hl1).mono ?_
    rintro r W3 ⟨hp, hb3⟩
    obtain rfl := HS2.out _ hp
    have hb4 : Below Wa.heap.size Wa (W3.alloc (.cells #[.bool false, .string S] 69)) := hb3.alloc hb3.size _
    have k0 := (below_at hb4 cl).trans c0
    have k1 := (below_at hb4 cl).trans c1
    have j0 : (W3.alloc (.cells #[.bool false, .string S] 69)).cell? ⟨W3.heap.size, 0, none⟩ = some (.bool false) := by simp [go_sem]
    have j1 : (W3.alloc (.cells #[.bool false, .string S] 69)).cell? ⟨W3.heap.size, 1, none⟩ = some (.string S) := by simp [go_sem]
    have jl : W3.heap.size < (W3.alloc (.cells #[.bool false, .string S] 69)).heap.size := by simp
    have kl : ga < (W3.alloc (.cells #[.bool false, .string S] 69)).heap.size := Nat.lt_of_lt_of_le cl hb4.size
    have HL1 := Lib.hid (HL1.out.below hb4)
    clear hp hb3 hb4 c0 c1 cl
    clear y0 y1 y2 y3 y4 y5 y6; have y0 := HL1.out.box.n; have y1 := HL1.out.box.p; have y2 := HL1.out.box.r; have y3 := HL1.out.box.ch; have y4 := HL1.out.box.sp; have y5 := HL1.out.box.wt; have y6 := HL1.out.box.er
    go_wp2_with fail
    have HT := Lib.hid (LawT.mk HL1.out k0 k1 j0 j1 kl jl)
    clear HL1 k0 k1 j0 j1 kl jl y0 y1 y2 y3 y4 y5 y6
    generalize (W3.alloc (.cells #[.bool false, .string S] 69)) = Wb at HT ⊢
    generalize W3.heap.size = gb at HT ⊢
    have y0 := HT.out.l.box.n; have y1 := HT.out.l.box.p; have y2 := HT.out.l.box.r; have y3 := HT.out.l.box.ch; have y4 := HT.out.l.box.sp; have y5 := HT.out.l.box.wt; have y6 := HT.out.l.box.er; have k0 := HT.out.k0; have k1 := HT.out.k1; have j0 := HT.out.j0; have j1 := HT.out.j1
    generalize modVal rPrime x e = M
    generalize modErr rPrime x e = N
    go_region_held3 (fun w' => w'.cell? ⟨w.heap.size, 0, none⟩ = some (.int .i64 x.n) ∧ w'.cell? ⟨w.heap.size, 1, none⟩ = some (.int .u32 x.p) ∧ w'.cell? ⟨w.heap.size, 2, none⟩ = some (.int .i64 x.r) ∧ w'.cell? ⟨w.heap.size, 3, none⟩ = some (.slice pa x.ch.length cap) ∧ w'.cell? ⟨w.heap.size, 4, none⟩ = some (.int .u32 x.sp) ∧ w'.cell? ⟨w.heap.size, 5, none⟩ = some (.int .i64 x.wt) ∧ w'.cell? ⟨w.heap.size, 6, none⟩ = some (.int .u32 x.er) ∧ w'.cell? ⟨ga, 0, none⟩ = some (.bool false) ∧ w'.cell? ⟨ga, 1, none⟩ = some (.string S) ∧ w'.cell? ⟨gb, 0, none⟩ = some (.bool false) ∧ w'.cell? ⟨gb, 1, none⟩ = some (.string S)) (go_keep)
      (first
        | (go_at_call 38; (refine (pcheck_st (by first | exact HT.out | exact HT.out.drew) hx).mono ?_); rintro r W5 ⟨rfl, ht⟩; have HT := Lib.hid ht; clear ht; have y0 := HT.out.l.box.n; have y1 := HT.out.l.box.p; have y2 := HT.out.l.box.r; have y3 := HT.out.l.box.ch; have y4 := HT.out.l.box.sp; have y5 := HT.out.l.box.wt; have y6 := HT.out.l.box.er; have k0 := HT.out.k0; have k1 := HT.out.k1; have j0 := HT.out.j0; have j1 := HT.out.j1)
        | (go_at_call 14; (refine (rcheck_st (by first | exact HT.out | exact HT.out.drew) hx).mono ?_); rintro r W5 ⟨rfl, ht⟩; have HT := Lib.hid ht; clear ht; have y0 := HT.out.l.box.n; have y1 := HT.out.l.box.p; have y2 := HT.out.l.box.r; have y3 := HT.out.l.box.ch; have y4 := HT.out.l.box.sp; have y5 := HT.out.l.box.wt; have y6 := HT.out.l.box.er; have k0 := HT.out.k0; have k1 := HT.out.k1; have j0 := HT.out.j0; have j1 := HT.out.j1))
    all_goals
      go_wp2_with fail
      go_ret
      exact ⟨rfl, HT.out.l.bel⟩
end Go.Proofs.Ytjfjbkocopaehaa
