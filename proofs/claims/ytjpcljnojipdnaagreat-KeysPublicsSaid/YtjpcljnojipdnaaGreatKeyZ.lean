/- Walks of the layer of keys: powers of secrets: the closure, each. keys.Power. -/
import Derived.Test.YtjpcljnojipdnaaGreatKeyY
import Derived.Test.YtjpcljnojipdnaaGreatMthA
import Derived.Deep.WholeRow
/-! Walks of the layer of keys: powers of secrets: the closure, each. -/
namespace Go.Proofs.YtjpcljnojipdnaaGreat
open Go.RowKit

def i64s (l : List Int) : List Value := l.map (Value.int .i64)

theorem Blk.icell {w : World} {g : Nat} {l : List Int} {T : TypeId} (h : Blk w g (i64s l) T) (i : Nat) (hi : i < l.length) : w.cell? ⟨g, i, none⟩ = some (.int .i64 (l.getD i 0)) := by
  have := h.cell i (by unfold i64s; rw [List.length_map]; exact hi)
  rw [this]; unfold i64s; rw [List.getElem_map, getD_lt hi]
theorem Blk.iset {w : World} {g : Nat} {l : List Int} {T : TypeId} (h : Blk w g (i64s l) T) (i : Nat) (z : Int) : Blk (w.setCell ⟨g, i, none⟩ (.int .i64 z)).drew g (i64s (l.set i z)) T := by
  have h := h.set i (.int .i64 z)
  unfold i64s at h ⊢
  rw [List.map_set]; exact h.drew

set_option maxHeartbeats 1000000 in
theorem pow1_any (w : World) (d c ob sb b off cap fr to i : Nat) (sgn : Int) (l cur nxt : List Int) (M B : Int) (hd : Blk w d (i64s nxt) 117) (hc : Blk w c (i64s cur) 117)
    (ho : w.cell? ⟨ob, 0, none⟩ = some (.int .i64 i)) (hs : w.cell? ⟨sb, 0, none⟩ = some (.slice (some ⟨b, off, none⟩) l.length cap)) (hz : w.cell? ⟨b, off + fr, none⟩ = some (.int .i8 (l.getD fr 0)))
    (hn1 : nxt.length = 32) (hn2 : cur.length = 32) (hfr : fr < l.length) (hto : to < 32) (hi : i < 32) (hs0 : sgn = 1 ∨ sgn = -1) (hl : l.getD fr 0 = -1 ∨ l.getD fr 0 = 0 ∨ l.getD fr 0 = 1)
    (hB0 : 0 ≤ B) (hB : B ≤ 1048576) (hM0 : 0 ≤ M) (hM : M ≤ 1099511627776) (bc : Bd B cur) (bn : Bd M nxt) :
    Calls Tryz.prog 74 #[.int .i64 fr, .int .i64 to, .int .i64 sgn, .pointer (some ⟨d, 0, none⟩), .pointer (some ⟨c, 0, none⟩), .pointer (some ⟨ob, 0, none⟩), .pointer (some ⟨sb, 0, none⟩)] w fun e w' =>
      e = .returned (.tuple #[]) ∧ Blk w' d (i64s (nxt.set to (nxt.getD to 0 + sgn * cur.getD i 0 * l.getD fr 0))) 117 ∧ w.grownBy w' (some d) := by
  have cd := hd.icell to (by omega)
  have fd := hd.free to
  have cc := hc.icell i (by omega)
  have HD := Lib.hid hd
  obtain ⟨⟨p0, p1⟩, p2, p3⟩ := sg_bd hs0 (bc.getD hB0 i) hl
  obtain ⟨p4, p5⟩ := bn.getD hM0 to
  have i0 : (0 : Int) ≤ fr := by omega
  have i1 : (fr : Int) < l.length := by omega
  have i2 : (0 : Int) ≤ to := by omega
  have i3 : (to : Int) < 32 := by omega
  have i4 : (0 : Int) ≤ i := by omega
  have i5 : (i : Int) < 32 := by omega
  have i6 : -1 ≤ l.getD fr 0 := by omega
  have i7 : l.getD fr 0 ≤ 1 := by omega
  generalize hv1 : nxt.getD to 0 = v1 at *
  generalize hv2 : cur.getD i 0 = v2 at *
  generalize hv3 : l.getD fr 0 = v3 at *
  clear hd hc hn1 hn2 hs0 hl bc bn hv1 hv2 hv3
  go_enter Tryz.func74, Tryz.ntmps74
  go_wp2
  go_region
  all_goals go_end0
  all_goals exact ⟨rfl, HD.out.iset to _, grown_set0 w d to _⟩

set_option maxHeartbeats 1000000 in
theorem eachp_any (w : World) (d c ob sb b off cap N i : Nat) (l cur nxt : List Int) (M B : Int) (hd : Blk w d (i64s nxt) 117) (hc : Blk w c (i64s cur) 117)
    (ho : w.cell? ⟨ob, 0, none⟩ = some (.int .i64 i)) (hs : w.cell? ⟨sb, 0, none⟩ = some (.slice (some ⟨b, off, none⟩) l.length cap)) (hr : RowZ .i8 w b off l) (hl : l.length = N) (hN0 : 1 ≤ N) (hN : N ≤ 32)
    (hn1 : nxt.length = 32) (hn2 : cur.length = 32) (hi : i < N) (hsm : ∀ z, z ∈ l → small1 z = true)
    (hB0 : 0 ≤ B) (hB : B ≤ 1048576) (hM0 : 0 ≤ M) (hM : M + 32 * B ≤ 1099511627776) (bc : Bd B cur) (bn : Bd M nxt)
    (n1 : c ≠ d) (n2 : ob ≠ d) (n3 : sb ≠ d) (n4 : b ≠ d) (m2 : ob < w.heap.size) (m3 : sb < w.heap.size) :
    Calls Tryz.prog 73 #[.int .i64 N, .int .i64 1, .int .i64 i, .func (.func 74) #[] #[.pointer (some ⟨d, 0, none⟩), .pointer (some ⟨c, 0, none⟩), .pointer (some ⟨ob, 0, none⟩), .pointer (some ⟨sb, 0, none⟩)]] w fun e w' =>
      e = .returned (.tuple #[]) ∧ Blk w' d (i64s (mulRow N l cur nxt i N)) 117 ∧ w.grownBy w' (some d) := by
  have HD := Lib.hid hd; have HC := Lib.hid hc; have HO := Lib.hid ho; have HS := Lib.hid hs; have HL := Lib.hid hl; have HSM := Lib.hid hsm; have HN1 := Lib.hid hn1; have HN2 := Lib.hid hn2
  have hcw := hc.lt
  have BC := Lib.hid bc; have BN := Lib.hid bn
  clear hd hc ho hs hl hsm hn1 hn2 bc bn
  go_enter Tryz.func73, Tryz.ntmps73
  go_wp2_with fail
  go_loopw [8, 9, 11] (fun _ _ vf wr => ∃ f : Nat, vf = .int .i64 f ∧ f ≤ N ∧ Hid (Blk wr d (i64s (mulRow N l cur nxt i f)) 117) ∧ w.grownBy wr (some d)) (fun _ _ vf _ => N - (intOf vf).toNat)
  case atStart => exact ⟨0, rfl, by omega, HD.out, grown_refl _ _⟩
  case round =>
    obtain ⟨f, rfl, hf, hblk, hgr⟩ := hrel
    by_cases hlt : f < N
    · have il : f < l.length := by rw [HL.out]; exact hlt
      have hcr : Hid (Blk wr c (i64s cur) 117) := (hgr.block c hcw (by simpa using n1)).trans HC.out
      have hor : Hid (wr.cell? ⟨ob, 0, none⟩ = some (.int .i64 i)) := by show _ = _; rw [grown_cell hgr m2 n2]; exact HO.out
      have hsr : Hid (wr.cell? ⟨sb, 0, none⟩ = some (.slice (some ⟨b, off, none⟩) l.length cap)) := by show _ = _; rw [grown_cell hgr m3 n3]; exact HS.out
      have hzr : Hid (wr.cell? ⟨b, off + f, none⟩ = some (.int .i8 (l.getD f 0))) := by show _ = _; rw [grown_cell hgr hr.blk n4, getD_lt il]; exact hr.cell f il
      have hsmf := Lib.hid (getD_small HSM.out f)
      have hlen : Hid ((mulRow N l cur nxt i f).length = 32) := by show _ = _; rw [mulRow_length]; exact HN1.out
      have hfB : 0 ≤ (f : Int) * B := Int.mul_nonneg (by omega) hB0
      have hfB2 : (f : Int) * B ≤ 32 * B := Int.mul_le_mul_of_nonneg_right (by omega) hB0
      have hbd := Lib.hid (mulRow_bd (n := N) (i := i) HSM.out hB0 hM0 BC.out BN.out f)
      have hM1 : 0 ≤ M + (f : Int) * B := by omega
      have hM2 : M + (f : Int) * B ≤ 1099511627776 := by omega
      have hq : Hid (((f : Int) + (i : Int)) % (2 * (N : Int)) = (((f + i) % (2 * N) : Nat) : Int)) := by show _ = _; rw [Int.natCast_emod, Int.natCast_mul, Int.natCast_add]; rfl
      have hqlt : (f + i) % (2 * N) < 2 * N := Nat.mod_lt _ (by omega)
      by_cases hcs : (f + i) % (2 * N) < N
      · have ht : ((f : Int) + (i : Int)) % (2 * (N : Int)) < N := by rw [hq.out]; omega
        have hst : Hid (mulRow N l cur nxt i (f + 1) = (mulRow N l cur nxt i f).set ((f + i) % (2 * N)) ((mulRow N l cur nxt i f).getD ((f + i) % (2 * N)) 0 + 1 * cur.getD i 0 * l.getD f 0)) := by
          show mulStep N l cur (mulRow N l cur nxt i f) i f = _
          unfold mulStep; rw [if_pos hcs]
        go_wp2_with (go_at_call 74; rw [hq.out]; refine (pow1_any _ _ _ _ _ _ _ _ _ _ _ _ l cur (mulRow N l cur nxt i f) (M + (f : Int) * B) B hblk.out hcr.out hor.out hsr.out hzr.out hlen.out HN2.out il (by omega) (by omega) (.inl rfl) hsmf.out hB0 hB hM1 hM2 BC.out hbd.out).mono ?_; rintro e w1 ⟨rfl, hb1, hg1⟩)
        go_roundw
        case rel => exact ⟨f + 1, by go_num, by omega, (by show Blk _ _ _ _; rw [hst.out]; exact hb1), grown_trans hgr hg1⟩
        case measure => simp [intOf]; omega
      · have ht : ¬ ((f : Int) + (i : Int)) % (2 * (N : Int)) < N := by rw [hq.out]; omega
        have hst : Hid (mulRow N l cur nxt i (f + 1) = (mulRow N l cur nxt i f).set ((f + i) % (2 * N) - N) ((mulRow N l cur nxt i f).getD ((f + i) % (2 * N) - N) 0 + -1 * cur.getD i 0 * l.getD f 0)) := by
          show mulStep N l cur (mulRow N l cur nxt i f) i f = _
          unfold mulStep; rw [if_neg hcs]
        have hq2 : Hid (((f : Int) + (i : Int)) % (2 * (N : Int)) - N = (((f + i) % (2 * N) - N : Nat) : Int)) := by show _ = _; rw [hq.out]; omega
        have hmb : ((f : Int) + (i : Int)) % (2 * (N : Int)) ≤ 64 := by rw [hq.out]; omega
        go_wp2_with (go_at_call 74; rw [hq2.out]; refine (pow1_any _ _ _ _ _ _ _ _ _ _ _ _ l cur (mulRow N l cur nxt i f) (M + (f : Int) * B) B hblk.out hcr.out hor.out hsr.out hzr.out hlen.out HN2.out il (show (f + i) % (2 * N) - N < 32 by omega) (by omega) (.inr rfl) hsmf.out hB0 hB hM1 hM2 BC.out hbd.out).mono ?_; rintro e w1 ⟨rfl, hb1, hg1⟩)
        go_roundw
        case rel => exact ⟨f + 1, by go_num, by omega, (by show Blk _ _ _ _; rw [hst.out]; exact hb1), grown_trans hgr hg1⟩
        case measure => simp [intOf]; omega
    · obtain rfl : f = N := by omega
      go_wp2_with fail
      go_end0
      exact ⟨rfl, hblk.out, hgr⟩
end Go.Proofs.YtjpcljnojipdnaaGreat

/-! keys.Power. -/
namespace Go.Proofs.YtjpcljnojipdnaaGreat
open Go.RowKit

theorem pow_no {pr : Nat → Bool} {x : Par} {l : List Int} {e : Int} (h : csec pr x l ≠ 0 ∨ e < 0 ∨ 2 < e) : powOk pr x l e = false := by
  unfold powOk
  rcases h with h | h | h
  · have : (okB pr x && secB x l) = false := by
      cases hc : (okB pr x && secB x l) with
      | false => rfl
      | true => exfalso; apply h; unfold csec; rw [hc]; rfl
    rw [this]; rfl
  · rw [decide_eq_false (show ¬ 0 ≤ e by omega)]; simp
  · rw [decide_eq_false (show ¬ e ≤ 2 by omega)]; simp

set_option maxHeartbeats 1000000 in
theorem power_no (x : Par) (cv sv : Value) (l : List Int) (k : Int) (w : World) (hx : ParOk x) (hcv : SliceAt w cv x.ch) (hs : SliceZ .i8 w sv l) (hlen : l.length ≤ 140737488351232) (hno : powOk mPrime x l k = false) :
    Calls Tryz.prog 31 #[x.val cv, .agg #[sv], .int .i64 k] w fun r w' => r = .returned (.tuple #[.slice none 0 0, .int .i64 2]) ∧ Below w.heap.size w w' := by
  have hbW : Below w.heap.size w ((w.alloc (.cells #[.int .i64 x.n, .int .u32 x.p, .int .i64 x.r, cv, .int .u32 x.sp, .int .i64 x.wt, .int .u32 x.er] 25)).alloc (.cells #[sv] 28)) := ((Below.refl _ _).alloc (Nat.le_refl _) _).alloc (by simp) _
  have hcv1 := Lib.hid (hcv.below hbW)
  have hs1 := Lib.hid (hs.below hbW)
  have hB : BoxP ((w.alloc (.cells #[.int .i64 x.n, .int .u32 x.p, .int .i64 x.r, cv, .int .u32 x.sp, .int .i64 x.wt, .int .u32 x.er] 25)).alloc (.cells #[sv] 28)) w.heap.size x cv := by constructor <;> simp [go_sem]
  have hS : ((w.alloc (.cells #[.int .i64 x.n, .int .u32 x.p, .int .i64 x.r, cv, .int .u32 x.sp, .int .i64 x.wt, .int .u32 x.er] 25)).alloc (.cells #[sv] 28)).cell? ⟨w.heap.size + 1, 0, none⟩ = some (sv) := by simp [go_sem]
  have hsz : w.heap.size + 1 + 1 ≤ ((w.alloc (.cells #[.int .i64 x.n, .int .u32 x.p, .int .i64 x.r, cv, .int .u32 x.sp, .int .i64 x.wt, .int .u32 x.er] 25)).alloc (.cells #[sv] 28)).heap.size := by simp
  have HB := Lib.hid hB; have HS := Lib.hid hS
  clear hB hS
  unfold Par.val
  rcases csec_vals mPrime x l with hc | hc
  · have HC := Lib.hid hc
    have hcond : k < 0 ∨ (0 ≤ k ∧ 2 < k) := by
      apply Classical.byContradiction
      intro hcc
      have h1 := csec_zero hc
      have : powOk mPrime x l k = true := by
        unfold powOk
        rw [h1.1, h1.2, decide_eq_true (show 0 ≤ k by omega), decide_eq_true (show k ≤ 2 by omega)]; rfl
      rw [this] at hno; cases hno
    clear hc
    rcases hcond with h | ⟨h1, h2⟩
    · have d1 : decide (k < 0) = true := decide_eq_true h
      go_enter Tryz.func31, Tryz.ntmps31
      go_wp2_with fail
      refine (csecret_any x cv sv l _ hx hcv1.out hs1.out hlen).mono ?_
      rintro e w1 ⟨rfl, hb1⟩
      rw [HC.out]
      have HB1 := Lib.hid hb1; clear hb1
      go_wp2_with fail
      go_ret2
      exact ⟨rfl, hbW.trans (HB1.out.mono (by omega))⟩
    · have d1 : decide (k < 0) = false := decide_eq_false (by omega)
      have d2 : decide (2 < k) = true := decide_eq_true h2
      go_enter Tryz.func31, Tryz.ntmps31
      go_wp2_with fail
      refine (csecret_any x cv sv l _ hx hcv1.out hs1.out hlen).mono ?_
      rintro e w1 ⟨rfl, hb1⟩
      rw [HC.out]
      have HB1 := Lib.hid hb1; clear hb1
      go_wp2_with fail
      go_ret2
      exact ⟨rfl, hbW.trans (HB1.out.mono (by omega))⟩
  · have HC := Lib.hid hc
    clear hc
    go_enter Tryz.func31, Tryz.ntmps31
    go_wp2_with fail
    refine (csecret_any x cv sv l _ hx hcv1.out hs1.out hlen).mono ?_
    rintro e w1 ⟨rfl, hb1⟩
    rw [HC.out]
    have HB1 := Lib.hid hb1; clear hb1
    go_wp2_with fail
    go_ret2
    exact ⟨rfl, hbW.trans (HB1.out.mono (by omega))⟩

theorem info32 : (Tryz.prog.info? 117).map (·.size) = some 32 := by kernel_rfl
theorem wp_store_row {o : Oper} {a : Act} {w : World} {K : Act → World → Prop} {Q : Exit → Act → World → Prop} (ty : TypeId) (x y : Operand) (ho : o.op = .store ty x y)
    (g : Nat) (hx : a.eval x = .pointer (some ⟨g, 0, none⟩)) (t : TypeId) (cs cs' : Array Value) (hy : a.eval y = .agg cs') (hg : w.heap[g]? = some (.cells cs t (0, 0)))
    (hi : (Tryz.prog.info? ty).map (·.size) = some cs'.size) (hsz : cs.size = cs'.size) (h1 : cs'.all (·.oneCell') = true)
    (h : K (a.put o.dst undef) (w.setRow g cs')) : o.wp Tryz.prog a w K Q := by
  unfold Oper.wp execOp
  simp only [ho, hx, hy, Instr.storeAt, Instr.sureAddr, Sem.run_bind, Sem.run_pure, Result.andThen_ok, run_storeVar_row w g t ty cs cs' hg hi hsz h1]
  unfold Oper.upon
  exact h

theorem wpList_store_row {ops : Array Oper} {rest : List Oper} {o : Oper} {a : Act} {w : World} {Q : Exit → Act → World → Prop} (hgd : o.guard = none) (ty : TypeId) (x y : Operand) (ho : o.op = .store ty x y)
    (g : Nat) (hx : a.eval x = .pointer (some ⟨g, 0, none⟩)) (t : TypeId) (cs cs' : Array Value) (hy : a.eval y = .agg cs') (hg : w.heap[g]? = some (.cells cs t (0, 0)))
    (hi : (Tryz.prog.info? ty).map (·.size) = some cs'.size) (hsz : cs.size = cs'.size) (h1 : cs'.all (·.oneCell') = true)
    (h : wpList Tryz.prog ops Q rest (a.put o.dst undef) (w.setRow g cs')) : wpList Tryz.prog ops Q (o :: rest) a w :=
  wpList_plain hgd fun _ hK => wp_store_row ty x y ho g hx t cs cs' hy hg hi hsz h1 (hK _ _ h)

theorem Blk.row {w : World} {g : Nat} {cs : List Value} {T : TypeId} (h : Blk w g cs T) (ds : List Value) : Blk (w.setRow g ds.toArray) g ds T := setRow_heap w g _ _ T _ h
theorem info64 : (Tryz.prog.info? 2).map (fun i => (i.zero, i.size, i.bytes)) = some (some (.int .i64 0), 1, 8) := by kernel_rfl
theorem len32 : Tryz.prog.arrayLen 117 = 32 := by kernel_rfl
theorem run_sliceAt32 (a : Addr) (N : Nat) (h : N ≤ 32) (w : World) : (Instr.sliceAt 117 (.pointer (some a)) none (some (.int .i64 N)) none).run Tryz.prog w = .ok (.slice (some a) N 32) w := by
  have ht : Tryz.prog.underlying 117 = some (.array (Tryz.prog.arrayLen 117) (Tryz.prog.elem 117)) := by kernel_rfl
  have he : Tryz.prog.elem 117 = 2 := by kernel_rfl
  rw [run_sliceAt_array_h (P := Tryz.prog) w 117 a ht .i64 (N : Int) (by omega) (by rw [len32]; omega), he, Tryz.sizeOf2, len32]
  simp [slicedAt, Addr.add]
theorem i64s_size (l : List Int) : ((i64s l).toArray).size = l.length := by simp [i64s]
theorem i64s_one (l : List Int) : ((i64s l).toArray).all (·.oneCell') = true := by
  rw [Array.all_eq_true]
  intro i hi
  simp [i64s]; rfl
theorem below_row {B g : Nat} {a w : World} (h : Below B a w) (hg : B ≤ g) (cs : Array Value) : Below B a (w.setRow g cs) :=
  h.trans ⟨rfl, rfl, rfl, by simp [World.setRow], fun k hk => setRow_other w g k cs (by omega)⟩

set_option maxHeartbeats 1000000 in
set_option maxRecDepth 100000 in
theorem power_yes (x : Par) (cv : Value) (b off cap N k : Nat) (l : List Int) (w : World) (hx : ParOk x) (hcv : SliceAt w cv x.ch) (hr : RowZ .i8 w b off l) (hcap : l.length ≤ cap) (hcap2 : l.length ≤ 140737488351232) (hok : powOk mPrime x l k = true) (hN : x.n = (N : Int)) :
    Calls Tryz.prog 31 #[x.val cv, .agg #[.slice (some ⟨b, off, none⟩) l.length cap], .int .i64 k] w fun r w' => ∃ v, r = .returned (.tuple #[v, .int .i64 0]) ∧ SliceZ .i64 w' v ((powTo N l k).take N) ∧ Below w.heap.size w w' := by
  have hs : SliceZ .i8 w (.slice (some ⟨b, off, none⟩) l.length cap) l := ⟨_, _, rfl, hcap, hcap2, fun _ => ⟨b, off, rfl, hr⟩⟩
  have hbW : Below w.heap.size w ((w.alloc (.cells #[.int .i64 x.n, .int .u32 x.p, .int .i64 x.r, cv, .int .u32 x.sp, .int .i64 x.wt, .int .u32 x.er] 25)).alloc (.cells #[.slice (some ⟨b, off, none⟩) l.length cap] 28)) := ((Below.refl _ _).alloc (Nat.le_refl _) _).alloc (by simp) _
  have hcv1 := Lib.hid (hcv.below hbW)
  have hs1 := Lib.hid (hs.below hbW)
  have hB : BoxP ((w.alloc (.cells #[.int .i64 x.n, .int .u32 x.p, .int .i64 x.r, cv, .int .u32 x.sp, .int .i64 x.wt, .int .u32 x.er] 25)).alloc (.cells #[.slice (some ⟨b, off, none⟩) l.length cap] 28)) w.heap.size x cv := by constructor <;> simp [go_sem]
  have hS : ((w.alloc (.cells #[.int .i64 x.n, .int .u32 x.p, .int .i64 x.r, cv, .int .u32 x.sp, .int .i64 x.wt, .int .u32 x.er] 25)).alloc (.cells #[.slice (some ⟨b, off, none⟩) l.length cap] 28)).cell? ⟨w.heap.size + 1, 0, none⟩ = some (.slice (some ⟨b, off, none⟩) l.length cap) := by simp [go_sem]
  have hsz : w.heap.size + 1 + 1 ≤ ((w.alloc (.cells #[.int .i64 x.n, .int .u32 x.p, .int .i64 x.r, cv, .int .u32 x.sp, .int .i64 x.wt, .int .u32 x.er] 25)).alloc (.cells #[.slice (some ⟨b, off, none⟩) l.length cap] 28)).heap.size := by simp
  have HB := Lib.hid hB; have HS := Lib.hid hS
  clear hB hS
  have hr1 := Lib.hid (hr.below hbW hr.blk)
  have hbw := hr.blk
  have hlen : l.length ≤ 140737488351232 := by omega
  unfold powOk at hok
  simp only [Bool.and_eq_true, decide_eq_true_eq] at hok
  obtain ⟨⟨ok1, ok2⟩, ok3, ok4⟩ := hok
  have hdim := okB_dim ok1
  have hn4 : 4 ≤ N := by omega
  have hn32 : N ≤ 32 := by omega
  obtain ⟨hsm, hlN, _⟩ := secB_parts ok2
  have hk2 : k ≤ 2 := by omega
  have hc0 : Hid (csec mPrime x l = 0) := csec_yes ok1 ok2
  have hlN' : Hid (l.length = N) := by show _ = _; omega
  have d1 : decide ((k : Int) < 0) = false := decide_eq_false (by omega)
  have d2 : decide ((2 : Int) < k) = false := decide_eq_false (by omega)
  have HSM := Lib.hid hsm
  have HNN := Lib.hid hN
  clear ok1 ok2 ok3 ok4 hdim hsm hlN hN
  unfold Par.val
  go_enter Tryz.func31, Tryz.ntmps31
  go_wp2_with fail
  refine (csecret_any x cv _ l _ hx hcv1.out hs1.out hlen).mono ?_
  rintro e w1 ⟨rfl, hb1⟩
  rw [hc0.out]
  have k0 := (HB.out.below hb1 (by omega)).n
  rw [HNN.out] at k0
  have kS : w1.cell? ⟨w.heap.size + 1, 0, none⟩ = some (.slice (some ⟨b, off, none⟩) l.length cap) := by rw [below_at hb1 (by omega)]; exact HS.out
  have hr2 := Lib.hid (hr1.out.below hb1 (by omega))
  have hlt0 : w.heap.size < w1.heap.size := by have := hb1.size; omega
  have hlt1 : w.heap.size + 1 < w1.heap.size := by have := hb1.size; omega
  have hbT : Hid (Below w.heap.size w w1) := hbW.trans (hb1.mono (by omega))
  clear hb1
  go_wp2_with (refine wpList_store_row rfl 117 _ _ rfl w1.heap.size rfl 117 _ _ rfl (heap_alloc_last _ _) info32 rfl (by decide +kernel) ?_)
  have hb3 : Below w1.heap.size w1 ((w1.alloc (.cells #[.int .i64 0, .int .i64 0, .int .i64 0, .int .i64 0, .int .i64 0, .int .i64 0, .int .i64 0, .int .i64 0, .int .i64 0, .int .i64 0, .int .i64 0, .int .i64 0, .int .i64 0, .int .i64 0, .int .i64 0, .int .i64 0, .int .i64 0, .int .i64 0, .int .i64 0, .int .i64 0, .int .i64 0, .int .i64 0, .int .i64 0, .int .i64 0, .int .i64 0, .int .i64 0, .int .i64 0, .int .i64 0, .int .i64 0, .int .i64 0, .int .i64 0, .int .i64 0] 117)).setRow w1.heap.size #[.int .i64 1, .int .i64 0, .int .i64 0, .int .i64 0, .int .i64 0, .int .i64 0, .int .i64 0, .int .i64 0, .int .i64 0, .int .i64 0, .int .i64 0, .int .i64 0, .int .i64 0, .int .i64 0, .int .i64 0, .int .i64 0, .int .i64 0, .int .i64 0, .int .i64 0, .int .i64 0, .int .i64 0, .int .i64 0, .int .i64 0, .int .i64 0, .int .i64 0, .int .i64 0, .int .i64 0, .int .i64 0, .int .i64 0, .int .i64 0, .int .i64 0, .int .i64 0]) := below_row ((Below.refl _ _).alloc (Nat.le_refl _) _) (Nat.le_refl _) _
  have hp3 : Blk ((w1.alloc (.cells #[.int .i64 0, .int .i64 0, .int .i64 0, .int .i64 0, .int .i64 0, .int .i64 0, .int .i64 0, .int .i64 0, .int .i64 0, .int .i64 0, .int .i64 0, .int .i64 0, .int .i64 0, .int .i64 0, .int .i64 0, .int .i64 0, .int .i64 0, .int .i64 0, .int .i64 0, .int .i64 0, .int .i64 0, .int .i64 0, .int .i64 0, .int .i64 0, .int .i64 0, .int .i64 0, .int .i64 0, .int .i64 0, .int .i64 0, .int .i64 0, .int .i64 0, .int .i64 0] 117)).setRow w1.heap.size #[.int .i64 1, .int .i64 0, .int .i64 0, .int .i64 0, .int .i64 0, .int .i64 0, .int .i64 0, .int .i64 0, .int .i64 0, .int .i64 0, .int .i64 0, .int .i64 0, .int .i64 0, .int .i64 0, .int .i64 0, .int .i64 0, .int .i64 0, .int .i64 0, .int .i64 0, .int .i64 0, .int .i64 0, .int .i64 0, .int .i64 0, .int .i64 0, .int .i64 0, .int .i64 0, .int .i64 0, .int .i64 0, .int .i64 0, .int .i64 0, .int .i64 0, .int .i64 0]) w1.heap.size (i64s (powTo N l 0)) 117 := (Blk.new w1 #[.int .i64 0, .int .i64 0, .int .i64 0, .int .i64 0, .int .i64 0, .int .i64 0, .int .i64 0, .int .i64 0, .int .i64 0, .int .i64 0, .int .i64 0, .int .i64 0, .int .i64 0, .int .i64 0, .int .i64 0, .int .i64 0, .int .i64 0, .int .i64 0, .int .i64 0, .int .i64 0, .int .i64 0, .int .i64 0, .int .i64 0, .int .i64 0, .int .i64 0, .int .i64 0, .int .i64 0, .int .i64 0, .int .i64 0, .int .i64 0, .int .i64 0, .int .i64 0] 117).row _
  generalize ((w1.alloc (.cells #[.int .i64 0, .int .i64 0, .int .i64 0, .int .i64 0, .int .i64 0, .int .i64 0, .int .i64 0, .int .i64 0, .int .i64 0, .int .i64 0, .int .i64 0, .int .i64 0, .int .i64 0, .int .i64 0, .int .i64 0, .int .i64 0, .int .i64 0, .int .i64 0, .int .i64 0, .int .i64 0, .int .i64 0, .int .i64 0, .int .i64 0, .int .i64 0, .int .i64 0, .int .i64 0, .int .i64 0, .int .i64 0, .int .i64 0, .int .i64 0, .int .i64 0, .int .i64 0] 117)).setRow w1.heap.size #[.int .i64 1, .int .i64 0, .int .i64 0, .int .i64 0, .int .i64 0, .int .i64 0, .int .i64 0, .int .i64 0, .int .i64 0, .int .i64 0, .int .i64 0, .int .i64 0, .int .i64 0, .int .i64 0, .int .i64 0, .int .i64 0, .int .i64 0, .int .i64 0, .int .i64 0, .int .i64 0, .int .i64 0, .int .i64 0, .int .i64 0, .int .i64 0, .int .i64 0, .int .i64 0, .int .i64 0, .int .i64 0, .int .i64 0, .int .i64 0, .int .i64 0, .int .i64 0]) = W3 at hb3 hp3 ⊢
  have HP3 := Lib.hid hp3
  have K0 : Hid (W3.cell? ⟨w.heap.size, 0, none⟩ = some (.int .i64 N)) := by show _ = _; rw [below_at hb3 hlt0]; exact k0
  have KS : Hid (W3.cell? ⟨w.heap.size + 1, 0, none⟩ = some (.slice (some ⟨b, off, none⟩) l.length cap)) := by show _ = _; rw [below_at hb3 hlt1]; exact kS
  have hr3 := Lib.hid (hr2.out.below hb3 (by have := hb3.size; omega))
  have hb3T : Hid (Below w.heap.size w W3) := hbT.out.trans (hb3.mono (by omega))
  have hW3 : w1.heap.size < W3.heap.size := hp3.lt
  clear hb3 hp3 kS k0
  go_loopw [25] (fun vj wr => ∃ j : Nat, vj = .int .i64 j ∧ j ≤ k ∧ Hid (Blk wr w1.heap.size (i64s (powTo N l j)) 117) ∧ Below w1.heap.size W3 wr) (fun vj _ => k - (intOf vj).toNat)
  case atStart => exact ⟨0, rfl, by omega, HP3.out, Below.refl _ _⟩
  case round =>
    obtain ⟨j, rfl, hj, hblk, hbel⟩ := hrel
    have hsz2 := hbel.size
    have q0 : wr.cell? ⟨w.heap.size, 0, none⟩ = some (.int .i64 N) := by rw [below_at hbel hlt0]; exact K0.out
    by_cases hjk : j < k
    · have hbj : Hid (Bd 1024 (powTo N l j)) := by
        obtain ⟨z0, z1, _⟩ := powTo_bd (n := N) hn32 HSM.out
        rcases (show j = 0 ∨ j = 1 by omega) with rfl | rfl
        · exact z0.mono (by omega)
        · exact z1
      have hlj : Hid ((powTo N l j).length = 32) := powTo_length _ _ _
      have hA0 : w.heap.size < wr.heap.size := by omega
      go_wp2_with fail
      have hn0 : Blk (wr.alloc (.cells #[.int .i64 0, .int .i64 0, .int .i64 0, .int .i64 0, .int .i64 0, .int .i64 0, .int .i64 0, .int .i64 0, .int .i64 0, .int .i64 0, .int .i64 0, .int .i64 0, .int .i64 0, .int .i64 0, .int .i64 0, .int .i64 0, .int .i64 0, .int .i64 0, .int .i64 0, .int .i64 0, .int .i64 0, .int .i64 0, .int .i64 0, .int .i64 0, .int .i64 0, .int .i64 0, .int .i64 0, .int .i64 0, .int .i64 0, .int .i64 0, .int .i64 0, .int .i64 0] 117)) wr.heap.size (i64s (mulTo N l (powTo N l j) 0)) 117 := Blk.new wr #[.int .i64 0, .int .i64 0, .int .i64 0, .int .i64 0, .int .i64 0, .int .i64 0, .int .i64 0, .int .i64 0, .int .i64 0, .int .i64 0, .int .i64 0, .int .i64 0, .int .i64 0, .int .i64 0, .int .i64 0, .int .i64 0, .int .i64 0, .int .i64 0, .int .i64 0, .int .i64 0, .int .i64 0, .int .i64 0, .int .i64 0, .int .i64 0, .int .i64 0, .int .i64 0, .int .i64 0, .int .i64 0, .int .i64 0, .int .i64 0, .int .i64 0, .int .i64 0] 117
      have hc0 : Blk (wr.alloc (.cells #[.int .i64 0, .int .i64 0, .int .i64 0, .int .i64 0, .int .i64 0, .int .i64 0, .int .i64 0, .int .i64 0, .int .i64 0, .int .i64 0, .int .i64 0, .int .i64 0, .int .i64 0, .int .i64 0, .int .i64 0, .int .i64 0, .int .i64 0, .int .i64 0, .int .i64 0, .int .i64 0, .int .i64 0, .int .i64 0, .int .i64 0, .int .i64 0, .int .i64 0, .int .i64 0, .int .i64 0, .int .i64 0, .int .i64 0, .int .i64 0, .int .i64 0, .int .i64 0] 117)) w1.heap.size (i64s (powTo N l j)) 117 := hblk.out.alloc _
      have hbel1 : Below w1.heap.size W3 (wr.alloc (.cells #[.int .i64 0, .int .i64 0, .int .i64 0, .int .i64 0, .int .i64 0, .int .i64 0, .int .i64 0, .int .i64 0, .int .i64 0, .int .i64 0, .int .i64 0, .int .i64 0, .int .i64 0, .int .i64 0, .int .i64 0, .int .i64 0, .int .i64 0, .int .i64 0, .int .i64 0, .int .i64 0, .int .i64 0, .int .i64 0, .int .i64 0, .int .i64 0, .int .i64 0, .int .i64 0, .int .i64 0, .int .i64 0, .int .i64 0, .int .i64 0, .int .i64 0, .int .i64 0] 117)) := hbel.alloc (by omega) _
      have hd1 : wr.heap.size < (wr.alloc (.cells #[.int .i64 0, .int .i64 0, .int .i64 0, .int .i64 0, .int .i64 0, .int .i64 0, .int .i64 0, .int .i64 0, .int .i64 0, .int .i64 0, .int .i64 0, .int .i64 0, .int .i64 0, .int .i64 0, .int .i64 0, .int .i64 0, .int .i64 0, .int .i64 0, .int .i64 0, .int .i64 0, .int .i64 0, .int .i64 0, .int .i64 0, .int .i64 0, .int .i64 0, .int .i64 0, .int .i64 0, .int .i64 0, .int .i64 0, .int .i64 0, .int .i64 0, .int .i64 0] 117)).heap.size := hn0.lt
      have hcd : w1.heap.size < wr.heap.size := by omega
      obtain ⟨d, hd⟩ : ∃ d, d = wr.heap.size := ⟨_, rfl⟩
      rw [← hd] at hn0 hd1 hcd hsz2 hA0 ⊢
      generalize wr.alloc (.cells #[.int .i64 0, .int .i64 0, .int .i64 0, .int .i64 0, .int .i64 0, .int .i64 0, .int .i64 0, .int .i64 0, .int .i64 0, .int .i64 0, .int .i64 0, .int .i64 0, .int .i64 0, .int .i64 0, .int .i64 0, .int .i64 0, .int .i64 0, .int .i64 0, .int .i64 0, .int .i64 0, .int .i64 0, .int .i64 0, .int .i64 0, .int .i64 0, .int .i64 0, .int .i64 0, .int .i64 0, .int .i64 0, .int .i64 0, .int .i64 0, .int .i64 0, .int .i64 0] 117) = W4 at hn0 hc0 hbel1 hd1 ⊢
      clear hd q0 hbel hblk
      have HN0 := Lib.hid hn0; have HC0 := Lib.hid hc0
      clear hn0 hc0
      go_loopw [29] (fun vi wr => ∃ i : Nat, vi = .int .i64 i ∧ i ≤ N ∧ Hid (Blk wr w1.heap.size (i64s (powTo N l j)) 117) ∧ Hid (Blk wr d (i64s (mulTo N l (powTo N l j) i)) 117) ∧ Below w1.heap.size W3 wr ∧ d < wr.heap.size) (fun vi _ => N - (intOf vi).toNat)
      case atStart => exact ⟨0, rfl, by omega, HC0.out, HN0.out, hbel1, hd1⟩
      case round =>
        obtain ⟨i, rfl, hi, hbc, hbd, hbel2, hdw⟩ := hrel
        by_cases hin : i < N
        · have q0 : wr.cell? ⟨w.heap.size, 0, none⟩ = some (.int .i64 N) := by rw [below_at hbel2 hlt0]; exact K0.out
          have qA : w.heap.size < wr.heap.size := by omega
          go_wp2_with fail
          have hb5 : Below wr.heap.size wr (wr.alloc (.cells #[.int .i64 i] 3)) := (Below.refl _ _).alloc (Nat.le_refl _) _
          have ho5 : (wr.alloc (.cells #[.int .i64 i] 3)).cell? ⟨wr.heap.size, 0, none⟩ = some (.int .i64 i) := by simp [go_sem]
          have hs5 : wr.heap.size < (wr.alloc (.cells #[.int .i64 i] 3)).heap.size := by simp
          obtain ⟨ob, hob⟩ : ∃ ob, ob = wr.heap.size := ⟨_, rfl⟩
          rw [← hob] at ho5 hs5 hb5 hdw qA ⊢
          have hbc5 := hbc.out.below hb5 (by omega)
          have hbd5 := hbd.out.below hb5 hdw
          have hbel5 : Below w1.heap.size W3 (wr.alloc (.cells #[.int .i64 i] 3)) := hbel2.trans (hb5.mono (by omega))
          generalize wr.alloc (.cells #[.int .i64 i] 3) = W5 at ho5 hs5 hb5 hbc5 hbd5 hbel5 ⊢
          have hq5 : W5.cell? ⟨w.heap.size + 1, 0, none⟩ = some (.slice (some ⟨b, off, none⟩) l.length cap) := by rw [below_at hbel5 hlt1]; exact KS.out
          have hmb : Hid (Bd (i * (32 * 1024)) (mulTo N l (powTo N l j) i)) := mulTo_bd hn32 HSM.out (by omega) hbj.out i
          have hm0 : (0 : Int) ≤ (i : Int) * (32 * 1024) := by omega
          have hbb : b < w1.heap.size := by omega
          clear q0 hob
          refine (eachp_any W5 d w1.heap.size ob (w.heap.size + 1) b off cap N i l (powTo N l j) (mulTo N l (powTo N l j) i) (i * (32 * 1024)) 1024 hbd5 hbc5 ho5 hq5 (hr3.out.below hbel5 hbb) hlN'.out (by omega) hn32 (mulTo_length _ _ _ _) hlj.out hin HSM.out (by omega) (by omega) hm0 (by omega) hbj.out hmb.out (by omega) (by omega) (by omega) (by omega) (by omega) (by omega)).mono ?_
          rintro e w6 ⟨rfl, hb6, hg6⟩
          have hc6 : Hid (Blk w6 w1.heap.size (i64s (powTo N l j)) 117) := (hg6.block _ hbc5.lt (by simp; omega)).trans hbc5
          have hB6 := Lib.hid hb6
          have hbel6 : Below w1.heap.size W3 w6 := hbel5.grown hg6 (by omega) (by intro q hq; cases hq; omega)
          have hs6 : d < w6.heap.size := by have := hg6.size; omega
          clear hg6 hb6 hbc5 hbd5 hq5 ho5 hb5 hbel5
          go_wp2_with fail
          go_roundw
          case rel => exact ⟨i + 1, by go_num, by omega, hc6, hB6, hbel6, hs6⟩
          case measure => simp [intOf]; omega
        · obtain rfl : i = N := by omega
          have hbc' := hbc.out
          have hbd' := hbd.out
          unfold Blk at hbc' hbd'
          have HBC := Lib.hid hbc'; have HBD := Lib.hid hbd'
          clear hbc' hbd'
          have z1 := Lib.hid (show (Tryz.prog.info? 117).map (·.size) = some ((i64s (mulTo i l (powTo i l j) i)).toArray).size by rw [info32, i64s_size, mulTo_length])
          have z2 := Lib.hid (show ((i64s (powTo i l j)).toArray).size = ((i64s (mulTo i l (powTo i l j) i)).toArray).size by rw [i64s_size, i64s_size, mulTo_length, powTo_length])
          have z3 := Lib.hid (i64s_one (mulTo i l (powTo i l j) i))
          have hu := Lib.hid Tryz.underlying117
          go_wp2_with (first | refine wpList_load_row rfl 117 _ rfl d rfl 117 _ (0, 0) _ HBD.out hu.out rfl z1.out ?_ | refine wpList_store_row rfl 117 _ _ rfl w1.heap.size rfl 117 _ _ rfl HBC.out z1.out z2.out z3.out ?_)
          go_roundw
          case rel => exact ⟨j + 1, by go_num, by omega, hbc.out.row _, below_row hbel2 (Nat.le_refl _) _⟩
          case measure => simp [intOf]; omega
    · obtain rfl : j = k := by omega
      obtain ⟨i0, hi0, hz0, hz1, hz2⟩ := info_parts info64
      have hlp : Hid ((powTo N l j).length = 32) := powTo_length _ _ _
      have htl : Hid (((powTo N l j).take N).length = N) := by show _ = _; rw [List.length_take, hlp.out]; omega
      have hnews : Hid (∀ q u, (i64s ((powTo N l j).take N))[q]? = some u → wr.cell? ((⟨w1.heap.size, 0, none⟩ : Addr).add q) = some u) := by
        intro q u hq
        have hadd : (⟨w1.heap.size, 0, none⟩ : Addr).add q = ⟨w1.heap.size, q, none⟩ := by unfold Addr.add; split <;> simp_all
        rw [hadd]
        unfold i64s at hq
        rw [List.getElem?_map] at hq
        by_cases hqn : q < N
        · rw [List.getElem?_eq_getElem (by rw [htl.out]; exact hqn)] at hq
          simp at hq
          have := hblk.out.cell q (by unfold i64s; rw [List.length_map, hlp.out]; omega)
          rw [this, ← hq]; unfold i64s; rw [List.getElem_map]
        · rw [List.getElem?_eq_none (by rw [htl.out]; omega)] at hq; simp at hq
      have hone : Hid (∀ u, u ∈ i64s ((powTo N l j).take N) → u.oneCell' = true) := by
        intro u hu; obtain ⟨z, _, rfl⟩ := List.mem_map.1 hu; rfl
      have hlen1 : Hid ((i64s ((powTo N l j).take N)).length = N * 1) := by show _ = _; unfold i64s; rw [List.length_map, htl.out, Nat.mul_one]
      have hwf : Hid (∀ z, z ∈ (powTo N l j).take N → (Lit.int .i64 z).wf = true) := by
        intro z hz
        have hz' := List.mem_of_mem_take hz
        obtain ⟨p0, p1, p2⟩ := powTo_bd (n := N) hn32 HSM.out
        have : -1048576 ≤ z ∧ z ≤ 1048576 := by
          rcases (show j = 0 ∨ j = 1 ∨ j = 2 by omega) with e | e | e
          · rw [e] at hz'; have := p0 z hz'; omega
          · rw [e] at hz'; have := p1 z hz'; omega
          · rw [e] at hz'; exact p2 z hz'
        exact WalkArith.wf_i64 (by omega)
      have hA0 : w.heap.size < wr.heap.size := by omega
      have hsl := fun wx => run_sliceAt32 (⟨w1.heap.size, 0, none⟩) N hn32 wx
      go_wp2_with (at_builtin; refine wpList_append_own _ rfl _ _ 55 rfl wr.heap.size 2 i0 (.int .i64 0) 1 8 Tryz.underlying55 hi0 hz0 hz1 hz2 rfl (by decide) _ 0 [] rfl (World.ownsRow_nil _ _ _ _) ⟨w1.heap.size, 0, none⟩ N 32 (i64s ((powTo N l j).take N)) rfl hlen1.out hnews.out hone.out ?c3 ?c4 ?c5 ?_)
      case c3 => unfold maxLen; omega
      case c4 => omega
      case c5 => exact Nat.le_refl _
      intro v' w' hown hgrow _
      have HOW := Lib.hid hown
      have hbF : Hid (Below w.heap.size w w') := (hb3T.out.trans (hbel.mono (by omega))).grown hgrow (by omega) (by intro q hq; cases hq)
      clear hown hgrow
      go_wp2_with fail
      go_ret2
      exact ⟨v', rfl, SliceZ.ofOwns (by have := HOW.out; simpa [i64s] using this) (by rw [htl.out]; omega) hwf.out, hbF.out⟩
end Go.Proofs.YtjpcljnojipdnaaGreat
