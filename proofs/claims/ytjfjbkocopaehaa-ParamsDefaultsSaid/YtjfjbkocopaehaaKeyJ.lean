/- obscuraref12.Default. -/
import Derived.Test.YtjfjbkocopaehaaKeyI
namespace Go.Proofs.Ytjfjbkocopaehaa
open Go.RowKit

def defStep (pr : Nat → Bool) (n : Int) (p : Nat) (e : Int) : Nat := 2 * n.toNat * powv pr n p e
/-- 0, 2 or 4. -/
def defErr (pr : Nat → Bool) (n : Int) (p : Nat) (e lv : Int) : Int :=
  if isDim n = false ∨ lv < 1 ∨ 24 < lv ∨ powv pr n p e = 0 then 2
  else if 2147483647 < defStep pr n p e ∨ (chainOf pr (defStep pr n p e) (lv.toNat + 1)).length < lv.toNat + 1 then 4 else 0
def defPar (pr : Nat → Bool) (n : Int) (p : Nat) (e lv : Int) : Par :=
  if defErr pr n p e lv = 0 then
    { n := n, p := p, r := e, ch := (chainOf pr (defStep pr n p e) (lv.toNat + 1)).tail, sp := (chainOf pr (defStep pr n p e) (lv.toNat + 1)).headD 0, wt := 4, er := 2 }
  else { n := 0, p := 0, r := 0, ch := [], sp := 0, wt := 0, er := 0 }

def defRet (w0 w' : World) (x : Par) (e : Int) (r : Ending) : Prop :=
  Below w0.heap.size w0 w' ∧ ∃ v, r = .returned (.tuple #[x.val v, .int .i64 e]) ∧ SliceAt w' v x.ch

def zeroP : Par := { n := 0, p := 0, r := 0, ch := [], sp := 0, wt := 0, er := 0 }
theorem defPar_zero {pr : Nat → Bool} {n : Int} {p : Nat} {e lv : Int} (h : defErr pr n p e lv ≠ 0) : defPar pr n p e lv = zeroP := by unfold defPar; rw [if_neg h]; rfl

/-- A box of zeros answers as the failures do. -/
theorem def_zero {w0 w' : World} {n : Int} {p : Nat} {e lv k : Int} {r : Ending} (hb : Below w0.heap.size w0 w') (hk : defErr rPrime n p e lv = k) (h0 : k ≠ 0)
    (hr : r = .returned (.tuple #[.agg #[.int .i64 0, .int .u32 0, .int .i64 0, .slice none 0 0, .int .u32 0, .int .i64 0, .int .u32 0], .int .i64 k])) : defRet w0 w' (defPar rPrime n p e lv) (defErr rPrime n p e lv) r := by
  rw [defPar_zero (by rw [hk]; exact h0), hk]
  refine ⟨hb, .slice none 0 0, hr, none, 0, rfl, Nat.le_refl _, by simp [zeroP], fun h => absurd rfl h⟩

theorem powv_odd {pr : Nat → Bool} {n : Int} {p : Nat} {e : Int} (hn : 4 ≤ n) (h : powv pr n p e ≠ 0) : 3 ≤ powv pr n p e ∧ powv pr n p e % 2 = 1 ∧ powv pr n p e % (2 * n).toNat = 1 := by
  unfold powv at h ⊢
  split
  · rename_i hc
    obtain ⟨h1, h2, h3, h4, h5, h6⟩ := hc
    obtain ⟨k, hk⟩ : ∃ k, e.toNat = k + 1 := ⟨e.toNat - 1, by omega⟩
    obtain ⟨m, hm⟩ : ∃ m, (2 * n).toNat = 2 * m := ⟨n.toNat, by omega⟩
    have hp : p % 2 = 1 := by
      have h7 := Nat.div_add_mod p (2 * n).toNat
      rw [h4, hm, Nat.mul_assoc] at h7
      omega
    have e1 : p ^ e.toNat % 2 = 1 := by rw [Nat.pow_mod, hp, Nat.one_pow]
    have e2 : p ^ e.toNat % (2 * n).toNat = 1 := by rw [Nat.pow_mod, h4, Nat.one_pow]; exact Nat.mod_eq_of_lt (by omega)
    refine ⟨?_, e1, e2⟩
    rw [hk, Nat.pow_succ]
    have : 1 ≤ p ^ k := Nat.pos_of_ne_zero (by intro hz; have := Nat.pow_eq_zero.1 hz; omega)
    calc 3 ≤ 1 * p := by omega
      _ ≤ p ^ k * p := Nat.mul_le_mul_right _ this
  · rename_i hc
    exact absurd (if_neg hc) h
theorem Blk.get {w : World} {g : Nat} {cs : List Value} {T : TypeId} (h : Blk w g cs T) (i : Nat) : w.cell? ⟨g, i, none⟩ = cs[i]? := by
  unfold Blk at h
  simp only [World.cell?, h, Option.isSome_none, Bool.false_eq_true, if_false]
  simp
theorem RowAt.same {w w' : World} {b off : Nat} {l : List Nat} (h : RowAt w b off l) (e : w'.heap[b]? = w.heap[b]?) : RowAt w' b off l := by
  refine ⟨?_, fun i hi => ?_, h.rng⟩
  · rw [Array.getElem?_eq_getElem h.blk] at e
    exact (Array.getElem?_eq_some_iff.1 e).1
  · have := h.cell i hi
    simp only [World.cell?] at this ⊢
    rw [e]; exact this
theorem RowAt.tail {w : World} {b off q : Nat} {l : List Nat} (h : RowAt w b off (q :: l)) : RowAt w b (off + 1) l :=
  ⟨h.blk, fun i hi => by
    have := h.cell (i + 1) (by simp; omega)
    rw [List.getElem_cons_succ] at this
    rw [show off + 1 + i = off + (i + 1) by omega]; exact this, fun q hq => h.rng q (List.mem_cons_of_mem _ hq)⟩
theorem set7_ok {w W : World} {B g : Nat} {c0 c1 c2 c3 c4 c5 c6 : Value} {T : TypeId} (h : Blk W g [c0, c1, c2, c3, c4, c5, c6] T) (hb : Below B w W) (hg : B ≤ g) (v0 v1 v2 v3 v4 v5 v6 : Value) :
    Blk (((((((W.setCell ⟨g, 0, none⟩ v0).setCell ⟨g, 1, none⟩ v1).setCell ⟨g, 2, none⟩ v2).setCell ⟨g, 3, none⟩ v3).setCell ⟨g, 4, none⟩ v4).setCell ⟨g, 5, none⟩ v5).setCell ⟨g, 6, none⟩ v6).drew g [v0, v1, v2, v3, v4, v5, v6] T ∧ Below B w (((((((W.setCell ⟨g, 0, none⟩ v0).setCell ⟨g, 1, none⟩ v1).setCell ⟨g, 2, none⟩ v2).setCell ⟨g, 3, none⟩ v3).setCell ⟨g, 4, none⟩ v4).setCell ⟨g, 5, none⟩ v5).setCell ⟨g, 6, none⟩ v6).drew ∧ ∀ b, b ≠ g → (((((((W.setCell ⟨g, 0, none⟩ v0).setCell ⟨g, 1, none⟩ v1).setCell ⟨g, 2, none⟩ v2).setCell ⟨g, 3, none⟩ v3).setCell ⟨g, 4, none⟩ v4).setCell ⟨g, 5, none⟩ v5).setCell ⟨g, 6, none⟩ v6).drew.heap[b]? = W.heap[b]? := by
  refine ⟨?_, ?_, ?_⟩
  · have hF := (((((((h.set 0 v0).set 1 v1).set 2 v2).set 3 v3).set 4 v4).set 5 v5).set 6 v6).drew
    simpa only [List.set_cons_zero, List.set_cons_succ] using hF
  · exact (((((((hb.setCell hg _).setCell hg _).setCell hg _).setCell hg _).setCell hg _).setCell hg _).setCell hg _).drew
  · intro b hne
    have e : ∀ (X : World) (i : Nat) (u : Value), (X.setCell ⟨g, i, none⟩ u).heap[b]? = X.heap[b]? := fun X i u => Below.heap_setCell X _ u b hne
    have e2 : ∀ X : World, X.drew.heap[b]? = X.heap[b]? := fun X => rfl
    rw [e2, e, e, e, e, e, e, e]
theorem infoP : (Try.prog.info? 25).map (·.size) = some 7 := by kernel_rfl
theorem BoxP.ofBlk {w : World} {g : Nat} {x : Par} {cv : Value} {T : TypeId} (h : Blk w g [.int .i64 x.n, .int .u32 x.p, .int .i64 x.r, cv, .int .u32 x.sp, .int .i64 x.wt, .int .u32 x.er] T) : BoxP w g x cv :=
  ⟨h.cell 0 (by simp), h.cell 1 (by simp), h.cell 2 (by simp), h.cell 3 (by simp), h.cell 4 (by simp), h.cell 5 (by simp), h.cell 6 (by simp)⟩
set_option maxHeartbeats 6000000 in
set_option maxRecDepth 100000 in
theorem rdefault_any (n : Int) (p : Nat) (e lv : Int) (w : World) (hp : p < 4294967296) (he0 : -9223372036854775808 ≤ e) (he1 : e ≤ 9223372036854775807) (hl0 : -9223372036854775808 ≤ lv) (hl1 : lv ≤ 9223372036854775807) :
    Calls Try.prog 20 #[.int .i64 n, .int .u32 p, .int .i64 e, .int .i64 lv] w fun r w' => defRet w w' (defPar rPrime n p e lv) (defErr rPrime n p e lv) r := by
  have hB : BoxP (w.alloc (.cells #[.int .i64 0, .int .u32 0, .int .i64 0, .slice none 0 0, .int .u32 0, .int .i64 0, .int .u32 0] 25)) w.heap.size zeroP (.slice none 0 0) := by constructor <;> simp [go_sem, zeroP]
  have hbW : Below w.heap.size w (w.alloc (.cells #[.int .i64 0, .int .u32 0, .int .i64 0, .slice none 0 0, .int .u32 0, .int .i64 0, .int .u32 0] 25)) := (Below.refl _ _).alloc (Nat.le_refl _) _
  have HB := Lib.hid hB
  have HBW := Lib.hid hbW
  clear hB hbW
  have fin0 : ∀ (W : World) (k : Int), W = w.alloc (.cells #[.int .i64 0, .int .u32 0, .int .i64 0, .slice none 0 0, .int .u32 0, .int .i64 0, .int .u32 0] 25) → defErr rPrime n p e lv = k → k ≠ 0 →
      W.cell? ⟨w.heap.size, 0, none⟩ = some (.int .i64 0) ∧ W.cell? ⟨w.heap.size, 1, none⟩ = some (.int .u32 0) ∧ W.cell? ⟨w.heap.size, 2, none⟩ = some (.int .i64 0) ∧ W.cell? ⟨w.heap.size, 3, none⟩ = some (.slice none 0 0) ∧ W.cell? ⟨w.heap.size, 4, none⟩ = some (.int .u32 0) ∧ W.cell? ⟨w.heap.size, 5, none⟩ = some (.int .i64 0) ∧ W.cell? ⟨w.heap.size, 6, none⟩ = some (.int .u32 0) := by
    rintro W k rfl _ _
    exact ⟨HB.out.n, HB.out.p, HB.out.r, HB.out.ch, HB.out.sp, HB.out.wt, HB.out.er⟩
  have FIN0 := Lib.hid fin0
  clear fin0
  cases hn : isDim n with
  | false =>
    have HN := Lib.hid hn
    have HK : Hid (defErr rPrime n p e lv = 2) := by show _ = _; unfold defErr; rw [if_pos (.inl hn)]
    clear hn
    go_enter Try.func20, Try.ntmps20
    go_wp2_with (go_at_call 44; refine (rdim_any _ _).mono ?_; rintro e w1 ⟨rfl, rfl⟩; rw [HN.out])
    obtain ⟨r0, r1, r2, r3, r4, r5, r6⟩ := FIN0.out _ _ rfl HK.out (by decide)
    refine bodyPost_ret (v := .tuple #[.agg #[.int .i64 0, .int .u32 0, .int .i64 0, .slice none 0 0, .int .u32 0, .int .i64 0, .int .u32 0], .int .i64 2]) (by simp [results, Try.results20, go_sem, r0, r1, r2, r3, r4, r5, r6]) rfl (def_zero HBW.out HK.out (by decide) rfl)
  | true =>
  by_cases hlv : 1 ≤ lv ∧ lv ≤ 24
  case neg =>
    have HN := Lib.hid hn
    have HK : Hid (defErr rPrime n p e lv = 2) := by
      show _ = _; unfold defErr; rw [if_pos (by rcases Classical.em (lv < 1) with h | h; exact .inr (.inl h); exact .inr (.inr (.inl (by omega))))]
    clear hn
    by_cases h1 : lv < 1
    · have d1 : decide (lv < 1) = true := decide_eq_true h1
      go_enter Try.func20, Try.ntmps20
      go_wp2_with (go_at_call 44; refine (rdim_any _ _).mono ?_; rintro e w1 ⟨rfl, rfl⟩; rw [HN.out])
      obtain ⟨r0, r1, r2, r3, r4, r5, r6⟩ := FIN0.out _ _ rfl HK.out (by decide)
      refine bodyPost_ret (v := .tuple #[.agg #[.int .i64 0, .int .u32 0, .int .i64 0, .slice none 0 0, .int .u32 0, .int .i64 0, .int .u32 0], .int .i64 2]) (by simp [results, Try.results20, go_sem, r0, r1, r2, r3, r4, r5, r6]) rfl (def_zero HBW.out HK.out (by decide) rfl)
    · have d1 : decide (lv < 1) = false := decide_eq_false h1
      have d2 : decide (24 < lv) = true := decide_eq_true (by omega)
      go_enter Try.func20, Try.ntmps20
      go_wp2_with (go_at_call 44; refine (rdim_any _ _).mono ?_; rintro e w1 ⟨rfl, rfl⟩; rw [HN.out])
      obtain ⟨r0, r1, r2, r3, r4, r5, r6⟩ := FIN0.out _ _ rfl HK.out (by decide)
      refine bodyPost_ret (v := .tuple #[.agg #[.int .i64 0, .int .u32 0, .int .i64 0, .slice none 0 0, .int .u32 0, .int .i64 0, .int .u32 0], .int .i64 2]) (by simp [results, Try.results20, go_sem, r0, r1, r2, r3, r4, r5, r6]) rfl (def_zero HBW.out HK.out (by decide) rfl)
  obtain ⟨hlv1, hlv2⟩ := hlv
  obtain ⟨N, rfl⟩ : ∃ N : Nat, n = N := ⟨n.toNat, by have := isDim_cases hn; omega⟩
  obtain ⟨L, rfl⟩ : ∃ L : Nat, lv = L := ⟨lv.toNat, by omega⟩
  have hN4 : 4 ≤ N := by have := isDim_cases hn; omega
  have hN32 : N ≤ 32 := by have := isDim_cases hn; omega
  have HN := Lib.hid hn
  clear hn
  obtain ⟨t, ht⟩ : ∃ t : Nat, t = powv rPrime N p e := ⟨_, rfl⟩
  by_cases ht0 : t = 0
  · have HK : Hid (defErr rPrime N p e L = 2) := by
      show _ = _; unfold defErr; rw [if_pos (.inr (.inr (.inr (by rw [← ht]; exact ht0))))]
    have d1 : decide ((L : Int) < 1) = false := decide_eq_false (by omega)
    have d2 : decide ((24 : Int) < L) = false := decide_eq_false (by omega)
    have hpl := Lib.hid (rplain_any N p e (w.alloc (.cells #[.int .i64 0, .int .u32 0, .int .i64 0, .slice none 0 0, .int .u32 0, .int .i64 0, .int .u32 0] 25)) (by omega) (by omega) hp he0 he1)
    rw [← ht, ht0] at hpl
    clear ht
    go_enter Try.func20, Try.ntmps20
    go_wp2_with (first | (go_at_call 44; refine (rdim_any _ _).mono ?_; rintro e w1 ⟨rfl, rfl⟩; rw [HN.out]) | (go_at_call 45; refine hpl.out.mono ?_; rintro e w1 ⟨rfl, rfl⟩))
    obtain ⟨r0, r1, r2, r3, r4, r5, r6⟩ := FIN0.out _ _ rfl HK.out (by decide)
    refine bodyPost_ret (v := .tuple #[.agg #[.int .i64 0, .int .u32 0, .int .i64 0, .slice none 0 0, .int .u32 0, .int .i64 0, .int .u32 0], .int .i64 2]) (by simp [results, Try.results20, go_sem, r0, r1, r2, r3, r4, r5, r6]) rfl (def_zero HBW.out HK.out (by decide) rfl)
  have ht1 : ((t : Int) == 0) = false := beq_eq_false_iff_ne.2 (by omega)
  have htb : 3 ≤ t ∧ t ≤ 2147483647 ∧ t % 2 = 1 := by
    have h1 := powv_le rPrime N p e
    have h2 := powv_odd (pr := rPrime) (n := N) (p := p) (e := e) (by omega) (by rw [← ht]; exact ht0)
    rw [← ht] at h1 h2
    exact ⟨h2.1, h1, h2.2.1⟩
  obtain ⟨ht3, htm, hto⟩ := htb
  have hNt : N * t ≤ 32 * 2147483647 := Nat.mul_le_mul hN32 htm
  obtain ⟨s, hs⟩ : ∃ s : Nat, s = 2 * N * t := ⟨_, rfl⟩
  have hs2 : s = 2 * (N * t) := by rw [hs, Nat.mul_assoc]
  have hsb : s ≤ 137438953472 := by omega
  have hs0 : 0 < s := by have : 4 * 3 ≤ N * t := Nat.mul_le_mul hN4 ht3; omega
  have hwr : IntKind.i64.wrap ((2 : Int) * (N : Int) * (t : Int)) = s := by
    rw [show (2 : Int) * (N : Int) * (t : Int) = s by rw [hs2, Int.mul_assoc]; simp]
    simp [IntKind.wrap, IntKind.bits, IntKind.signed]; omega
  have HS := Lib.hid hs
  have HT := Lib.hid ht
  clear hs hs2 ht
  have HNEG : Hid (¬ (isDim (N : Int) = false ∨ (L : Int) < 1 ∨ 24 < (L : Int) ∨ powv rPrime N p e = 0)) := by
    rintro (h | h | h | h)
    · rw [HN.out] at h; cases h
    · omega
    · omega
    · rw [← HT.out] at h; exact ht0 h
  have hpl : Hid (Calls Try.prog 45 #[.int .i64 N, .int .u32 p, .int .i64 e] (w.alloc (.cells #[.int .i64 0, .int .u32 0, .int .i64 0, .slice none 0 0, .int .u32 0, .int .i64 0, .int .u32 0] 25)) fun r w' => r = .returned (.int .i64 t) ∧ w.alloc (.cells #[.int .i64 0, .int .u32 0, .int .i64 0, .slice none 0 0, .int .u32 0, .int .i64 0, .int .u32 0] 25) = w') := by
    have := rplain_any N p e (w.alloc (.cells #[.int .i64 0, .int .u32 0, .int .i64 0, .slice none 0 0, .int .u32 0, .int .i64 0, .int .u32 0] 25)) (by omega) (by omega) hp he0 he1
    rw [← HT.out] at this
    exact this
  have d1 : decide ((L : Int) < 1) = false := decide_eq_false (by omega)
  have d2 : decide ((24 : Int) < L) = false := decide_eq_false (by omega)
  by_cases hbig : 2147483647 < s
  · have HK : Hid (defErr rPrime N p e L = 4) := by
      show _ = _; unfold defErr; rw [if_neg HNEG.out, if_pos (.inl (by unfold defStep; rw [← HT.out, Int.toNat_natCast, ← HS.out]; exact hbig))]
    have d3 : decide ((2147483647 : Int) < s) = true := decide_eq_true (by omega)
    go_enter Try.func20, Try.ntmps20
    go_wp2_with (first | (go_at_call 44; refine (rdim_any _ _).mono ?_; rintro e w1 ⟨rfl, rfl⟩; rw [HN.out]) | (go_at_call 45; refine hpl.out.mono ?_; rintro e w1 ⟨rfl, rfl⟩))
    obtain ⟨r0, r1, r2, r3, r4, r5, r6⟩ := FIN0.out _ _ rfl HK.out (by decide)
    refine bodyPost_ret (v := .tuple #[.agg #[.int .i64 0, .int .u32 0, .int .i64 0, .slice none 0 0, .int .u32 0, .int .i64 0, .int .u32 0], .int .i64 4]) (by simp [results, Try.results20, go_sem, r0, r1, r2, r3, r4, r5, r6]) rfl (def_zero HBW.out HK.out (by decide) rfl)
  have d3 : decide ((2147483647 : Int) < s) = false := decide_eq_false (by omega)
  go_enter Try.func20, Try.ntmps20
  go_wp2_with (first | (go_at_call 44; refine (rdim_any _ _).mono ?_; rintro e w1 ⟨rfl, rfl⟩; rw [HN.out]) | (go_at_call 45; refine hpl.out.mono ?_; rintro e w1 ⟨rfl, rfl⟩))
  rw [show ((L : Int) + 1) = ((L + 1 : Nat) : Int) by simp]
  refine (rchain_any N t (L + 1) s _ HN.out hN4 hN32 ht3 htm hto (by omega) (by omega) HS.out).mono ?_
  rintro r W ⟨hb, ⟨hlen, rfl⟩ | ⟨hlen, v, rfl, hsl⟩⟩
  · have hK : Hid (defErr rPrime N p e L = 4) := by
      show _ = _
      unfold defErr
      rw [if_neg HNEG.out, if_pos (.inr (by unfold defStep; rw [← HT.out, Int.toNat_natCast, ← HS.out, Int.toNat_natCast]; exact hlen))]
    have hbk : Blk W w.heap.size [.int .i64 0, .int .u32 0, .int .i64 0, .slice none 0 0, .int .u32 0, .int .i64 0, .int .u32 0] 25 := by
      have h := Blk.new w #[.int .i64 0, .int .u32 0, .int .i64 0, .slice none 0 0, .int .u32 0, .int .i64 0, .int .u32 0] 25
      exact Blk.below (by simpa using h) hb h.lt
    have HBB := Lib.hid (HBW.out.trans (hb.mono HBW.out.size))
    have HBK := Lib.hid hbk
    clear hb hlen hbk
    go_wp2_with (refine wpList_store_row rfl 25 _ _ rfl w.heap.size rfl 25 _ _ rfl HBK.out infoP rfl (by decide +kernel) ?_)
    have hR := BoxP.ofBlk (x := zeroP) (HBK.out.row [.int .i64 0, .int .u32 0, .int .i64 0, .slice none 0 0, .int .u32 0, .int .i64 0, .int .u32 0])
    have r0 := hR.n; have r1 := hR.p; have r2 := hR.r; have r3 := hR.ch; have r4 := hR.sp; have r5 := hR.wt; have r6 := hR.er
    refine bodyPost_ret (v := .tuple #[.agg #[.int .i64 0, .int .u32 0, .int .i64 0, .slice none 0 0, .int .u32 0, .int .i64 0, .int .u32 0], .int .i64 4]) (by simp [results, Try.results20, go_sem, r0, r1, r2, r3, r4, r5, r6, zeroP]) rfl (def_zero (below_row HBB.out (Nat.le_refl _) _) hK.out (by decide) rfl)
  · have hK : Hid (defErr rPrime N p e L = 0) := by
      show _ = _
      unfold defErr
      rw [if_neg HNEG.out, if_neg (by unfold defStep; rw [← HT.out, Int.toNat_natCast, ← HS.out, Int.toNat_natCast]; omega)]
    have hP : Hid (defPar rPrime N p e L = { n := N, p := p, r := e, ch := (chainOf rPrime s (L + 1)).tail, sp := (chainOf rPrime s (L + 1)).headD 0, wt := 4, er := 2 }) := by
      show _ = _
      unfold defPar
      rw [if_pos hK.out]
      unfold defStep
      rw [← HT.out, Int.toNat_natCast, ← HS.out, Int.toNat_natCast]
    have hbk : Blk W w.heap.size [.int .i64 0, .int .u32 0, .int .i64 0, .slice none 0 0, .int .u32 0, .int .i64 0, .int .u32 0] 25 := by
      have h := Blk.new w #[.int .i64 0, .int .u32 0, .int .i64 0, .slice none 0 0, .int .u32 0, .int .i64 0, .int .u32 0] 25
      exact Blk.below (by simpa using h) hb h.lt
    have HBB := Lib.hid (HBW.out.trans (hb.mono HBW.out.size))
    have HBK := Lib.hid hbk
    obtain ⟨C, hC⟩ : ∃ C, C = chainOf rPrime s (L + 1) := ⟨_, rfl⟩
    rw [← hC] at hlen hsl hP
    have hlt := fun q (h : q ∈ C) => (show 1073741824 < q ∧ q < 4294967296 by rw [hC] at h; have := chainOf_lt h; omega)
    clear hC hb hbk
    obtain ⟨pa, cap, rfl, hcap, _, hrow⟩ := hsl
    rw [hlen] at hcap
    match C, hlen, hrow, hlt, hP with
    | q :: C', hlen, hrow, hlt, hP =>
      obtain ⟨b, off, rfl, hr⟩ := hrow (by simp)
      have hr0 := hr.cell 0 (by simp)
      rw [Nat.add_zero, List.getElem_cons_zero] at hr0
      have hq := (hlt q (by simp)).2
      have hbg : Hid (b ≠ w.heap.size) := by
        intro h
        rw [h, HBK.out.get off] at hr0
        have h1 := List.mem_of_getElem? hr0
        have h2 := (hlt q (by simp)).1
        simp at h1
        omega
      have hR := Lib.hid hr
      have HL := Lib.hid hlen
      have hlen2 : C'.length = L := by simpa using hlen
      have hl3 : (q :: C').length = L + 1 := hlen
      clear hr hrow hlt hlen
      subst hlen2
      go_wp2_with fail
      have z0 : W.cell? ⟨w.heap.size, 0, none⟩ = some (.int .i64 0) := HBK.out.cell 0 (by simp)
      have y0 : W.frozen? ⟨w.heap.size, 0, none⟩ = false := HBK.out.free 0
      have z1 : W.cell? ⟨w.heap.size, 1, none⟩ = some (.int .u32 0) := HBK.out.cell 1 (by simp)
      have y1 : W.frozen? ⟨w.heap.size, 1, none⟩ = false := HBK.out.free 1
      have z2 : W.cell? ⟨w.heap.size, 2, none⟩ = some (.int .i64 0) := HBK.out.cell 2 (by simp)
      have y2 : W.frozen? ⟨w.heap.size, 2, none⟩ = false := HBK.out.free 2
      have z3 : W.cell? ⟨w.heap.size, 3, none⟩ = some (.slice none 0 0) := HBK.out.cell 3 (by simp)
      have y3 : W.frozen? ⟨w.heap.size, 3, none⟩ = false := HBK.out.free 3
      have z4 : W.cell? ⟨w.heap.size, 4, none⟩ = some (.int .u32 0) := HBK.out.cell 4 (by simp)
      have y4 : W.frozen? ⟨w.heap.size, 4, none⟩ = false := HBK.out.free 4
      have z5 : W.cell? ⟨w.heap.size, 5, none⟩ = some (.int .i64 0) := HBK.out.cell 5 (by simp)
      have y5 : W.frozen? ⟨w.heap.size, 5, none⟩ = false := HBK.out.free 5
      have z6 : W.cell? ⟨w.heap.size, 6, none⟩ = some (.int .u32 0) := HBK.out.cell 6 (by simp)
      have y6 : W.frozen? ⟨w.heap.size, 6, none⟩ = false := HBK.out.free 6
      go_region
      have h7 := set7_ok HBK.out HBB.out (Nat.le_refl _) (.int .i64 (N : Int)) (.int .u32 (p : Nat)) (.int .i64 e) (.slice (some ⟨b, off + 1, none⟩) C'.length (cap - 1)) (.int .u32 (q : Nat)) (.int .i64 4) (.int .u32 2)
      generalize (((((((W.setCell ⟨w.heap.size, 0, none⟩ (.int .i64 (N : Int))).setCell ⟨w.heap.size, 1, none⟩ (.int .u32 (p : Nat))).setCell ⟨w.heap.size, 2, none⟩ (.int .i64 e)).setCell ⟨w.heap.size, 3, none⟩ (.slice (some ⟨b, off + 1, none⟩) C'.length (cap - 1))).setCell ⟨w.heap.size, 4, none⟩ (.int .u32 (q : Nat))).setCell ⟨w.heap.size, 5, none⟩ (.int .i64 4)).setCell ⟨w.heap.size, 6, none⟩ (.int .u32 2)).drew = W2 at h7 ⊢
      obtain ⟨hF, hbF, hsm⟩ := h7
      have hsame := Lib.hid (hsm b hbg.out)
      have HBF := Lib.hid hbF
      clear hsm hbF
      have hR7 : BoxP W2 w.heap.size { n := N, p := p, r := e, ch := C', sp := q, wt := 4, er := 2 } (.slice (some ⟨b, off + 1, none⟩) C'.length (cap - 1)) := BoxP.ofBlk hF
      have k0 : W2.cell? ⟨w.heap.size, 0, none⟩ = some (.int .i64 (N : Int)) := hR7.n
      have k1 : W2.cell? ⟨w.heap.size, 1, none⟩ = some (.int .u32 (p : Nat)) := hR7.p
      have k2 : W2.cell? ⟨w.heap.size, 2, none⟩ = some (.int .i64 e) := hR7.r
      have k3 : W2.cell? ⟨w.heap.size, 3, none⟩ = some (.slice (some ⟨b, off + 1, none⟩) C'.length (cap - 1)) := hR7.ch
      have k4 : W2.cell? ⟨w.heap.size, 4, none⟩ = some (.int .u32 (q : Nat)) := hR7.sp
      have k5 : W2.cell? ⟨w.heap.size, 5, none⟩ = some (.int .i64 4) := hR7.wt
      have k6 : W2.cell? ⟨w.heap.size, 6, none⟩ = some (.int .u32 2) := hR7.er
      clear hR7 hF
      go_wp2_with fail
      refine bodyPost_ret (v := .tuple #[.agg #[.int .i64 (N : Int), .int .u32 (p : Nat), .int .i64 e, .slice (some ⟨b, off + 1, none⟩) C'.length (cap - 1), .int .u32 (q : Nat), .int .i64 4, .int .u32 2], .int .i64 0]) (by simp [results, Try.results20, go_sem, k0, k1, k2, k3, k4, k5, k6]) rfl ?_
      refine ⟨HBF.out, .slice (some ⟨b, off + 1, none⟩) C'.length (cap - 1), ?_, ?_⟩
      · rw [hP.out, hK.out]; rfl
      · rw [hP.out]
        exact ⟨_, cap - 1, rfl, by show C'.length ≤ cap - 1; omega, by show C'.length ≤ 140737488351232; omega, fun _ => ⟨b, off + 1, rfl, (hR.out.tail).same hsame.out⟩⟩
end Go.Proofs.Ytjfjbkocopaehaa
