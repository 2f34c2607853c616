/- KeysTurned: the walk. -/
import Derived.Test.YtjfjbkocopaehaaKeyQ
import Derived.Deep.AppendSrc
namespace Go.Proofs.Ytjfjbkocopaehaa
open Go.RowKit

/-- append(s, nil...) where s has a row: s. -/
theorem wpList_append_room0 {P : Program} {w : World} {ops : Array Oper} {rest : List Oper} {o : Oper} {a : Act} {Q : Exit → Act → World → Prop} (hgd : o.guard = none) (s x : Operand) (t : TypeId)
    (ho : o.op = .call { callee := .builtin .append, args := #[s, x], argTypes := #[t, t] }) (e : TypeId) (i : TypeInfo) (ht : P.underlying t = some (.slice e)) (hi : P.info? e = some i)
    (b off n sCap c : Nat) (hs : a.eval s = .slice (some ⟨b, off, none⟩) n sCap) (hn : n ≤ sCap) (hx : a.eval x = .slice none 0 c)
    (h : wpList P ops Q rest (a.put o.dst (.slice (some ⟨b, off, none⟩) n sCap)) w) : wpList P ops Q (o :: rest) a w := by
  refine wpList_plain hgd fun K hK => ?_
  have hrun := run_append_room_src (P := P) (w := w) t t o.type e i ht hi b off n sCap (.slice none 0 c) 0 [] (Src.ofNil w ht c) (by omega) (by simp) (by simp)
  unfold Oper.wp
  simp [execOp, ho, resolve, invoke, builtin, hs, hx, hrun, Result.andThen]
  exact hK _ _ h

/-- Parameters and a secret in boxes, with what they lead to. -/
structure Owned (w Z : World) (x : Par) (cv sv : Value) (l : List Int) (gp gs : Nat) : Prop where
  box : BoxP Z gp x cv
  cs : Z.cell? ⟨gs, 0, none⟩ = some sv
  sl : SliceAt Z cv x.ch
  sz : SliceZ .i8 Z sv l
  bel : Below w.heap.size w Z
  lp : gp < Z.heap.size
  ls : gs < Z.heap.size
theorem Owned.below {w Z Z' : World} {x : Par} {cv sv : Value} {l : List Int} {gp gs : Nat} (h : Owned w Z x cv sv l gp gs) (hb : Below Z.heap.size Z Z') : Owned w Z' x cv sv l gp gs :=
  ⟨h.box.below hb h.lp, (below_at hb h.ls).trans h.cs, h.sl.below hb, h.sz.below hb, h.bel.trans (hb.mono h.bel.size), Nat.lt_of_lt_of_le h.lp hb.size, Nat.lt_of_lt_of_le h.ls hb.size⟩
theorem Owned.boxes {w : World} {x : Par} {cv sv : Value} {l : List Int} (hcv : SliceAt w cv x.ch) (hs : SliceZ .i8 w sv l) :
    Owned w ((w.alloc (.cells #[.int .i64 x.n, .int .u32 x.p, .int .i64 x.r, cv, .int .u32 x.sp, .int .i64 x.wt, .int .u32 x.er] 25)).alloc (.cells #[sv] 28)) x cv sv l w.heap.size (w.heap.size + 1) := by
  have hb : Below w.heap.size w ((w.alloc (.cells #[.int .i64 x.n, .int .u32 x.p, .int .i64 x.r, cv, .int .u32 x.sp, .int .i64 x.wt, .int .u32 x.er] 25)).alloc (.cells #[sv] 28)) := ((Below.refl _ _).alloc (Nat.le_refl _) _).alloc (by simp) _
  exact ⟨by constructor <;> simp [go_sem], by simp [go_sem], hcv.below hb, hs.below hb, hb, by simp; omega, by simp⟩

/-- A list of small integers in a new row, behind an append. -/
theorem i8_wf {w : World} {v : Value} {l : List Int} (h : SliceZ .i8 w v l) : ∀ q, q ∈ l → (Lit.int .i8 q).wf = true := by
  intro q hq
  obtain ⟨p, cap, _, _, _, h4⟩ := h
  obtain ⟨b, off, _, hr⟩ := h4 (by intro e; subst e; cases hq)
  exact hr.rng q hq

theorem addr_add (b off j : Nat) : (⟨b, off, none⟩ : Addr).add j = ⟨b, off + j, none⟩ := by unfold Addr.add; split <;> simp_all
theorem owns_new (W : World) (T : TypeId) (B g : Nat) (hB : B ≤ g) (hg : g = W.heap.size) : (W.alloc (.cells #[] T)).ownsRow B T 1 (.slice (some ⟨g, 0, none⟩) 0 0) 0 [] := by
  subst hg
  exact ⟨rfl, .inr ⟨_, 0, #[], rfl, hB, Blk.new W #[] T, Nat.le_refl _, by decide, rfl, rfl⟩⟩

theorem turnOk_eq (x : Par) (l : List Int) (k : Int) : turnOk mPrime x l k = turnOk rPrime x l k := by unfold turnOk; rw [okB_eq]
theorem turnList_eq (x : Par) (l : List Int) (k : Int) : turnList mPrime x l k = turnList rPrime x l k := by unfold turnList; rw [turnOk_eq]
theorem turnErr_eq (x : Par) (l : List Int) (k : Int) : turnErr mPrime x l k = turnErr rPrime x l k := by unfold turnErr; rw [turnOk_eq]

set_option maxHeartbeats 2000000 in
set_option maxRecDepth 100000 in
theorem kturned_any (x : Par) (cv sv : Value) (l : List Int) (k : Int) (w : World) (hx : ParOk x) (hcv : SliceAt w cv x.ch) (hs : SliceZ .i8 w sv l) :
    Calls Try.prog 3 #[x.val cv, .agg #[sv], .int .i64 k] w fun r w' => r = .returned (.bool true) ∧ Below w.heap.size w w' := by
  have HO := Lib.hid (Owned.boxes hcv hs)
  obtain ⟨p, cap, rfl, hc1, hc2, hrow⟩ := hs
  unfold Par.val
  by_cases hbig : 200 < l.length
  · go_enter Try.func3, Try.ntmps3
    go_wp2_with (go_at_call 10; refine (awake_any _).mono ?_; rintro e w1 ⟨rfl, hb1⟩)
    go_ret
    exact ⟨rfl, below_then hb1 (((Below.refl _ _).alloc (Nat.le_refl _) _).alloc (by simp) _) (by simp; omega)⟩
  · obtain ⟨i0, hi0, hz0, hz1, hz2⟩ := info_parts infoI8
    have HR := Lib.hid hrow
    have h200 : l.length ≤ 200 := by omega
    clear hrow hcv hbig
    cases p
    case' some a =>
      have HN : Hid (∀ W, Below w.heap.size w W → ∀ (j : Nat) (u : Value), (i8s l)[j]? = some u → W.cell? (a.add j) = some u) := by
        intro W hW j u hu
        unfold i8s at hu
        rw [List.getElem?_map] at hu
        by_cases hj : j < l.length
        · obtain ⟨b, off, e, hr⟩ := HR.out (by intro e; subst e; cases hj)
          injection e with e
          subst e
          rw [List.getElem?_eq_getElem hj] at hu
          simp at hu
          have := (hr.below hW hr.blk).cell j hj
          rw [← hu, ← this, addr_add]
        · rw [List.getElem?_eq_none (by omega)] at hu; simp at hu
      go_enter Try.func3, Try.ntmps3
      go_wp2_with (at_builtin; refine wpList_append_own _ rfl _ _ 26 rfl (w.heap.size + 1 + 1) 75 i0 (.int .i8 0) 1 1 Try.underlying26 hi0 hz0 hz1 hz2 rfl (by decide) (.slice (some ⟨w.heap.size + 1 + 1, 0, none⟩) 0 0) 0 [] rfl (owns_new _ _ _ _ (Nat.le_refl _) (by simp)) a l.length cap (i8s l) rfl ?c1 ?c2 ?c3 ?c4 ?c5 ?c6 ?_)
      case c1 => simp [i8s]
      case c2 => exact HN.out _ ((((Below.refl _ _).alloc (Nat.le_refl _) _).alloc (by simp) _).alloc (by simp; omega) _)
      case c3 => intro u hu; obtain ⟨z, _, rfl⟩ := List.mem_map.1 hu; rfl
      case c4 => unfold maxLen; omega
      case c5 => omega
      case c6 => simp
      intro v' w1 hown hgrow _
      have q1 := ((Below.refl ((w.alloc (.cells #[.int .i64 x.n, .int .u32 x.p, .int .i64 x.r, cv, .int .u32 x.sp, .int .i64 x.wt, .int .u32 x.er] 25)).alloc (.cells #[.slice (some a) l.length cap] 28)).heap.size _).alloc (Nat.le_refl _) _).grown hgrow (by simp) (by intro q hq; simp [Value.ownBlock] at hq; simp; omega)
      have HO1 := Lib.hid (HO.out.below q1)
      have HV1 : Hid (SliceZ .i8 w1 v' l) := SliceZ.ofOwns (by simpa [i8s] using hown) hc2 (i8_wf HO1.out.sz)
      obtain ⟨pv, nv, cw, rfl⟩ : ∃ pv nv cw, v' = .slice pv nv cw := by obtain ⟨pv, cw, e, _⟩ := HV1.out; exact ⟨pv, _, cw, e⟩
      clear hown hgrow q1 HO HN HR
      have y0 := HO1.out.box.n; have y1 := HO1.out.box.p; have y2 := HO1.out.box.r; have y3 := HO1.out.box.ch; have y4 := HO1.out.box.sp; have y5 := HO1.out.box.wt; have y6 := HO1.out.box.er
      have ys := HO1.out.cs; have l1 := HO1.out.lp; have l2 := HO1.out.ls
      go_wp2_with fail
      clear y0 y1 y2 y3 y4 y5 y6 ys l1 l2
      have hsv : Hid (∃ pa na ca, Value.slice (some a) l.length cap = .slice pa na ca) := ⟨_, _, _, rfl⟩
      generalize Value.slice (some a) l.length cap = sv at HO1 hsv ⊢
      have hov : Hid (∃ pa na ca, Value.slice pv nv cw = .slice pa na ca) := ⟨_, _, _, rfl⟩
      generalize Value.slice pv nv cw = ov at HV1 hov ⊢
    case' none =>
      obtain rfl : l = [] := Classical.byContradiction fun h => by obtain ⟨b, off, e, _⟩ := HR.out h; cases e
      go_enter Try.func3, Try.ntmps3
      go_wp2_with (at_builtin; refine wpList_append_room0 rfl _ _ 26 rfl 75 i0 Try.underlying26 hi0 (w.heap.size + 1 + 1) 0 0 0 cap rfl (Nat.le_refl _) rfl ?_)
      have HO1 := Lib.hid (HO.out.below ((Below.refl _ _).alloc (Nat.le_refl _) (.cells #[] 75)))
      have HV1 : Hid (SliceZ .i8 (((w.alloc (.cells #[.int .i64 x.n, .int .u32 x.p, .int .i64 x.r, cv, .int .u32 x.sp, .int .i64 x.wt, .int .u32 x.er] 25)).alloc (.cells #[.slice none ([] : List Int).length cap] 28)).alloc (.cells #[] 75)) (.slice (some ⟨w.heap.size + 1 + 1, 0, none⟩) 0 0) []) := ⟨_, 0, rfl, Nat.le_refl _, by simp, fun h => absurd rfl h⟩
      clear HO HR
      have hsz : (((w.alloc (.cells #[.int .i64 x.n, .int .u32 x.p, .int .i64 x.r, cv, .int .u32 x.sp, .int .i64 x.wt, .int .u32 x.er] 25)).alloc (.cells #[.slice none ([] : List Int).length cap] 28)).alloc (.cells #[] 75)).heap.size = w.heap.size + 1 + 1 + 1 := by simp
      generalize (((w.alloc (.cells #[.int .i64 x.n, .int .u32 x.p, .int .i64 x.r, cv, .int .u32 x.sp, .int .i64 x.wt, .int .u32 x.er] 25)).alloc (.cells #[.slice none ([] : List Int).length cap] 28)).alloc (.cells #[] 75)) = w1 at HO1 HV1 hsz ⊢
      rw [← hsz]
      clear hsz
      generalize Value.slice none ([] : List Int).length cap = sv at HO1 ⊢
      generalize Value.slice (some ⟨w.heap.size + 1 + 1, 0, none⟩) 0 0 = ov at HV1 ⊢
    all_goals
      have HOZ : Hid (Owned w (w1.alloc (.cells #[ov] 28)) x cv sv _ w.heap.size (w.heap.size + 1)) := HO1.out.below ((Below.refl _ _).alloc (Nat.le_refl _) _)
      have HVZ : Hid (SliceZ .i8 (w1.alloc (.cells #[ov] 28)) ov _) := HV1.out.below ((Below.refl _ _).alloc (Nat.le_refl _) _)
      have hcZ : (w1.alloc (.cells #[ov] 28)).cell? ⟨w1.heap.size, 0, none⟩ = some ov := by simp [go_sem]
      have hlZ : w1.heap.size < (w1.alloc (.cells #[ov] 28)).heap.size := by simp
      clear HO1 HV1
      generalize (w1.alloc (.cells #[ov] 28)) = Z at HOZ HVZ hcZ hlZ ⊢
      generalize w1.heap.size = go at hcZ hlZ ⊢
      refine (turned_any x cv ov _ k _ hx HOZ.out.sl HVZ.out).mono ?_
      rintro e w2 ⟨⟨tv, rfl, htv⟩, hb2⟩
      obtain ⟨pt, nt, ct, rfl⟩ : ∃ pt nt ct, tv = .slice pt nt ct := by obtain ⟨p, c, e, _⟩ := htv; exact ⟨p, _, c, e⟩
      have HO2 := Lib.hid (HOZ.out.below hb2)
      have HV2 := Lib.hid (HVZ.out.below hb2)
      have HT2 := Lib.hid htv
      have y0 := HO2.out.box.n; have y1 := HO2.out.box.p; have y2 := HO2.out.box.r; have y3 := HO2.out.box.ch; have y4 := HO2.out.box.sp; have y5 := HO2.out.box.wt; have y6 := HO2.out.box.er
      have ys := HO2.out.cs; have yo := (below_at hb2 hlZ).trans hcZ
      have l1 := HO2.out.lp; have l2 := HO2.out.ls; have l3 := Nat.lt_of_lt_of_le hlZ hb2.size
      clear htv hb2 HOZ HVZ hcZ hlZ
      rw [turnErr_eq]
      go_wp2_with fail
      have HO3 : Hid (Owned w (w2.alloc (.cells #[.slice pt nt ct] 28)) x cv sv _ w.heap.size (w.heap.size + 1)) := HO2.out.below ((Below.refl _ _).alloc (Nat.le_refl _) _)
      refine (rturned_any x cv sv _ k _ hx HO3.out.sl HO3.out.sz).mono ?_
      rintro e w3 ⟨⟨tr, rfl, htr⟩, hb3⟩
      obtain ⟨pr, nr, cr, rfl⟩ : ∃ pr nr cr, tr = .slice pr nr cr := by obtain ⟨p, c, e, _⟩ := htr; exact ⟨p, _, c, e⟩
      have ya := ((Below.refl _ w2).alloc (Nat.le_refl _) (.cells #[.slice pt nt ct] 28))
      have HO4 := Lib.hid (HO3.out.below hb3)
      have HV4 := Lib.hid ((HV2.out.below ya).below hb3)
      have HT4 := Lib.hid ((HT2.out.below ya).below hb3)
      have HR4 := Lib.hid htr
      have z0 := HO4.out.box.n; have z1 := HO4.out.box.p; have z2 := HO4.out.box.r; have z3 := HO4.out.box.ch; have z4 := HO4.out.box.sp; have z5 := HO4.out.box.wt; have z6 := HO4.out.box.er
      have zs := HO4.out.cs
      have zo : w3.cell? ⟨go, 0, none⟩ = some ov := (below_at hb3 (by simp; omega)).trans ((below_at ya l3).trans yo)
      have zt : w3.cell? ⟨w2.heap.size, 0, none⟩ = some (.slice pt nt ct) := (below_at hb3 (by simp)).trans (by simp [go_sem])
      have m1 := HO4.out.lp; have m2 := HO4.out.ls
      have m3 : go < w3.heap.size := by have := hb3.size; simp at this; omega
      have m4 : w2.heap.size < w3.heap.size := by have := hb3.size; simp at this; omega
      clear htr hb3 HO2 HO3 ya HV2 HT2 y0 y1 y2 y3 y4 y5 y6 ys yo l1 l2 l3
      go_wp2_with fail
      refine (sames_any _ _ _ _ _ (HT4.out.below ((Below.refl _ _).alloc (Nat.le_refl _) _)) (HR4.out.below ((Below.refl _ _).alloc (Nat.le_refl _) _))).mono ?_
      rintro e w4 ⟨rfl, hb4⟩
      rw [turnList_eq, decide_eq_true rfl]
      have q4 := below_then hb4 ((Below.refl _ w3).alloc (Nat.le_refl _) _) (by simp)
      have HO5 := Lib.hid (HO4.out.below q4)
      have HV5 := Lib.hid (HV4.out.below q4)
      have zs5 := HO5.out.cs
      have zo5 := (below_at q4 m3).trans zo
      clear hb4 q4 z0 z1 z2 z3 z4 z5 z6 zs zo zt m1 m2 m3 m4 HO4 HV4 HT4 HR4
      go_wp2_with fail
      refine (sames_any _ _ _ _ _ HV5.out HO5.out.sz).mono ?_
      rintro e w5 ⟨rfl, hb5⟩
      rw [decide_eq_true rfl]
      have q5 := HO5.out.bel.trans (hb5.mono HO5.out.bel.size)
      have Q5 := Lib.hid q5
      clear hb5 q5 zs5 zo5 HO5 HV5
      go_wp2_with fail
      refine (awake_any _).mono ?_
      rintro e w6 ⟨rfl, hb6⟩
      have q6 := Lib.hid (Q5.out.trans (hb6.mono Q5.out.size))
      clear hb6 Q5
      go_wp2_with fail
      go_ret
      exact ⟨rfl, q6.out⟩
end Go.Proofs.Ytjfjbkocopaehaa
