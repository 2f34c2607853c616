/- Plain values: the evaluator's object; balanced, vector, power, residue. -/
import Derived.Test.YtljfgdlgmdcmfaaGreatTypI
namespace Go.Proofs.YtljfgdlgmdcmfaaGreat
open Go.RowKit Wv
set_option linter.unusedVariables false
set_option linter.unusedSimpArgs false

/-- A vector. -/
def vcA (N : Nat) (f : Nat → Int) : AV := .t N 1 (tab N fun j => .v (.int .i64 (f j)))
/-- Names and their values. -/
abbrev Env := List (ByteArray × (Nat → Int))
def enE (N : Nat) (es : Env) : List (Value × AV) := es.map fun p => (.string p.1, vcA N p.2)
def evC (N : Nat) (t : Int) : List AV := [.v (.int .i64 N), .v (.int .i64 t), .mp 1]
def hV (N : Nat) (t : Int) (es : Env) : Hp := [some (.blk (evC N t)), some (.map (enE N es))]
theorem vcA_clo (N : Nat) (f : Nat → Int) : Clo (vcA N f) := by unfold vcA; simp only [Wv.BC]
theorem enE_clo (N : Nat) (es : Env) : ∀ a, a ∈ (enE N es).map (·.2) → Clo a := by
  intro a ha
  unfold enE at ha
  rw [List.map_map] at ha
  obtain ⟨p, _, rfl⟩ := List.mem_map.1 ha
  exact vcA_clo _ _
theorem evC_rn (N : Nat) (t : Int) : RnL id 2 (evC N t) (evC N t) := ⟨.clo (.v _), .clo (.v _), .mp (by omega), trivial⟩
theorem hV_lo (N : Nat) (t : Int) (es : Env) : loH (hV N t es).length (hV N t es) := by
  refine ⟨?_, fun a ha => .clo (enE_clo N es a ha), trivial⟩
  unfold loL evC
  simp only [List.mem_cons, List.not_mem_nil, or_false, forall_eq_or_imp, forall_eq]
  exact ⟨.clo (.v _), .clo (.v _), .mp (by show 1 < 2; omega)⟩
theorem hV_rn (N : Nat) (t : Int) (es : Env) : ∀ (i : Nat) (o : Option Ob), (hV N t es)[i]? = some o → ∃ o', o = some o' ∧ RnO id (hV N t es).length o' o' := by
  intro i o ho
  unfold hV at ho ⊢
  match i with
  | 0 => simp at ho; subst ho; exact ⟨_, rfl, evC_rn N t⟩
  | 1 => simp at ho; subst ho; exact ⟨_, rfl, rfl, RnL.clo (enE_clo N es)⟩
  | i + 2 => simp at ho
theorem RD.hV {N : Nat} {t : Int} {es : Env} {f : FuncId} {args : List AV} {R p : AV → Prop} (T : RD Tryz.prog f (.ptr 0 0 :: args) (hV N t es) R p) (r : Hp) (ha : ∀ (a : AV), a ∈ args → Clo a) (hR : ∀ r, R r → Clo r) (hp : ∀ r, p r → Clo r) : HTP Tryz.prog f (.ptr 0 0 :: args) (hV N t es ++ r) (fun q h' => R q ∧ h' = hV N t es ++ r) (fun q h' => p q ∧ h' = hV N t es ++ r) :=
  RD.ext T r ⟨.ptr (by show 0 < 2; omega), RnL.clo ha⟩ (hV_rn N t es) hR hp
/-- A number, balanced. -/
def balN (t n : Int) : Int := if (t - 1) / 2 < n.tmod t then n.tmod t - t else if n.tmod t < -((t - 1) / 2) then n.tmod t + t else n.tmod t
theorem tmod_in {t n : Int} (ht : 3 ≤ t) : -t < n.tmod t ∧ n.tmod t < t := by
  constructor
  · have := Int.lt_tmod_of_pos n (show 0 < t by omega); omega
  · exact Int.tmod_lt_of_pos n (by omega)
theorem balN_le {t n : Int} (ht : 3 ≤ t) (ho : t % 2 = 1) : -((t - 1) / 2) ≤ balN t n ∧ balN t n ≤ (t - 1) / 2 := by
  have := tmod_in (n := n) ht
  unfold balN
  generalize n.tmod t = m at *
  split
  · omega
  · split <;> omega
set_option maxHeartbeats 400000 in
set_option maxRecDepth 100000 in
theorem pbaln_rd (N : Nat) (t : Int) (es : Env) (n : Int) (ht : 3 ≤ t) (ht' : t ≤ 2147483647) (hn : -9223372036854775807 ≤ n) (hn' : n ≤ 9223372036854775807) : RD Tryz.prog 125 [.ptr 0 0, .v (.int .i64 n)] (hV N t es) (fun r => r = .v (.int .i64 (balN t n))) (fun _ => False) := by
  refine RD.of ?_ (fun r q => q ▸ .clo (by simp only [Wv.BC])) (fun r q => q.elim) (hV_lo N t es)
  unfold hV evC
  have hq : (t - 1).tdiv 2 = (t - 1) / 2 := Int.tdiv_eq_ediv_of_nonneg (by omega)
  have hb := tmod_in (n := n) ht
  have hB : balN t n = if (t - 1) / 2 < n.tmod t then n.tmod t - t else if n.tmod t < -((t - 1) / 2) then n.tmod t + t else n.tmod t := rfl
  generalize balN t n = B at *
  generalize hm : n.tmod t = m at *
  refine Wv.HTP.by 40 [1, 0, 5, 18, 28, 4] [(1000000, 2)] [.tmp 4] (by kernel_rfl) Tryz.func125 rfl rfl rfl (by kernel_rfl) (by kernel_rfl) (Nat.le_of_ble_eq_true rfl) ?base ?_
  case base => rfl
  by_cases h1 : (t - 1) / 2 < m
  · rw [if_pos h1] at hB
    simp (maxSteps := 2000000) (disch := first | omega | assumption | (simp only [Wv.Bx, simprocAttr] <;> omega) | fail) only [Wv.B, simprocAttr, hq, hm, decide_eq_true h1]
    rw [hB]
  rw [if_neg h1] at hB
  by_cases h2 : m < -((t - 1) / 2)
  · rw [if_pos h2] at hB
    simp (maxSteps := 2000000) (disch := first | omega | assumption | (simp only [Wv.Bx, simprocAttr] <;> omega) | fail) only [Wv.B, simprocAttr, hq, hm, decide_eq_false h1, decide_eq_true h2]
    rw [hB]
  · rw [if_neg h2] at hB
    simp (maxSteps := 2000000) (disch := first | omega | assumption | (simp only [Wv.Bx, simprocAttr] <;> omega) | fail) only [Wv.B, simprocAttr, hq, hm, decide_eq_false h1, decide_eq_false h2]
    rw [hB]
/-- A list with zeros behind it. -/
def zeroF (_ : Nat) : Int := 0
def padN (nl : Nat) (li : Nat → Int) (j : Nat) : Int := if j < nl then li j else 0
theorem setLA_padA {m : Nat} {g : Nat → AV} : ∀ {k n : Nat} {f : Nat → AV}, m ≤ n → k ≤ m → setLA (tab n f) (m - k) (tab k fun i => g (i + (m - k))) = tab n fun i => if m - k ≤ i ∧ i < m then g i else f i
  | 0, n, f, h, hk => by
    show tab n f = _
    exact tab_congr fun i hi => by rw [if_neg (by omega)]
  | k + 1, n, f, h, hk => by
    have e1 : (tab (k + 1) fun i => g (i + (m - (k + 1)))) = g (m - (k + 1)) :: tab k fun i => g (i + (m - k)) := by
      unfold tab
      rw [List.range_succ_eq_map, List.map_cons, List.map_map, Nat.zero_add]
      congr 1
      apply List.map_congr_left
      intro i hi
      show g (i + 1 + (m - (k + 1))) = _
      congr 1
      omega
    rw [e1]
    show setLA ((tab n f).set (m - (k + 1)) _) (m - (k + 1) + 1) _ = _
    rw [tab_set, show m - (k + 1) + 1 = m - k by omega, setLA_padA (k := k) h (by omega)]
    refine tab_congr fun i hi => ?_
    by_cases q : i = m - (k + 1)
    · subst q
      rw [if_neg (by omega), if_pos rfl, if_pos (by omega)]
    · by_cases q2 : m - k ≤ i ∧ i < m
      · rw [if_pos q2, if_pos (by omega)]
      · rw [if_neg q2, if_neg q, if_neg (by omega)]
theorem setLA_pad {m n : Nat} {f g : Nat → AV} (h : m ≤ n) : setLA (tab n f) 0 (tab m g) = tab n fun i => if i < m then g i else f i := by
  have := setLA_padA (g := g) (f := f) h (Nat.le_refl m)
  rw [Nat.sub_self] at this
  simp only [Nat.add_zero, Nat.zero_le, true_and] at this
  exact this
set_option maxHeartbeats 400000 in
set_option maxRecDepth 100000 in
theorem pvec_rd (N : Nat) (t : Int) (es : Env) (nl : Nat) (li : Nat → Int) (hN : N ≤ 32) (hl : nl ≤ N) : RD Tryz.prog 120 [.ptr 0 0, .t nl 1 (tab nl fun i => .v (.int .i64 (li i)))] (hV N t es) (fun r => r = vcA N (padN nl li)) (fun _ => False) := by
  refine RD.of ?_ (fun r q => q ▸ .clo (vcA_clo _ _)) (fun r q => q.elim) (hV_lo N t es)
  have hp : ∀ f : Nat → AV, setLA (tab N f) 0 (tab nl fun i => AV.v (.int .i64 (li i))) = tab N fun i => if i < nl then AV.v (.int .i64 (li i)) else f i := fun f => setLA_pad hl
  have he : (tab N fun i => if i < nl then AV.v (.int .i64 (li i)) else AV.v (.int .i64 0)) = tab N fun j => AV.v (.int .i64 (padN nl li j)) := tab_congr fun i hi => by unfold padN; split <;> rfl
  unfold hV evC vcA
  refine Wv.HTP.by 15 [0, 5, 1, 4] [(1000000, 2)] [.tmp 4] (by kernel_rfl) Tryz.func120 rfl rfl rfl (by kernel_rfl) (by kernel_rfl) (Nat.le_of_ble_eq_true rfl) ?base ?_
  case base => rfl
  simp (maxSteps := 2000000) (disch := first | omega | assumption | (simp only [Wv.Bx, simprocAttr] <;> omega) | fail) only [Wv.B, simprocAttr, hp, he]
set_option maxHeartbeats 400000 in
set_option maxRecDepth 100000 in
theorem pvec0_rd (N : Nat) (t : Int) (es : Env) (hN : N ≤ 32) : RD Tryz.prog 120 [.ptr 0 0, .v (.slice none 0 0)] (hV N t es) (fun r => r = vcA N zeroF) (fun _ => False) := by
  refine RD.of ?_ (fun r q => q ▸ .clo (vcA_clo _ _)) (fun r q => q.elim) (hV_lo N t es)
  unfold hV evC vcA zeroF
  refine Wv.HTP.by 15 [0, 5, 1, 4] [(1000000, 2)] [.tmp 4] (by kernel_rfl) Tryz.func120 rfl rfl rfl (by kernel_rfl) (by kernel_rfl) (Nat.le_of_ble_eq_true rfl) ?base ?_
  case base => rfl
  simp (maxSteps := 2000000) (disch := first | omega | assumption | (simp only [Wv.Bx, simprocAttr] <;> omega) | fail) only [Wv.B, simprocAttr]
/-- A power. -/
def powG (t : Int) : Nat → Int → Int → Int → Int
  | 0, out, _, _ => out
  | f + 1, out, a, k => if 0 < k then powG t f (if k % 2 = 1 then balN t (out * a) else out) (balN t (a * a)) (k / 2) else out
def powZ (t a k : Int) : Int := powG t 64 1 a k
theorem and_one64 (x : Int) (h0 : 0 ≤ x) (h1 : x ≤ 9223372036854775807) : IntKind.i64.wrap ((BitVec.ofInt IntKind.i64.bits x &&& BitVec.ofInt IntKind.i64.bits 1).toNat : Int) = x % 2 := by
  obtain ⟨n, rfl⟩ := Int.eq_ofNat_of_zero_le h0
  have : (BitVec.ofInt IntKind.i64.bits (n : Int) &&& BitVec.ofInt IntKind.i64.bits 1).toNat = n % 2 := by
    show (BitVec.ofInt 64 (n : Int) &&& BitVec.ofInt 64 1).toNat = n % 2
    rw [BitVec.toNat_and, BitVec.ofInt_natCast, BitVec.toNat_ofNat, Nat.mod_eq_of_lt (by omega)]
    exact Nat.and_one_is_mod n
  rw [this]
  have h2 : n % 2 = 0 ∨ n % 2 = 1 := by omega
  rcases h2 with h | h
  · rw [h, show ((n : Nat) : Int) % 2 = 0 by omega]; rfl
  · rw [h, show ((n : Nat) : Int) % 2 = 1 by omega]; rfl
theorem mul_in {t a b : Int} (ht : t ≤ 2147483647) (ha : -((t - 1) / 2) ≤ a ∧ a ≤ (t - 1) / 2) (hb : -((t - 1) / 2) ≤ b ∧ b ≤ (t - 1) / 2) : -1152921504606846976 ≤ a * b ∧ a * b ≤ 1152921504606846976 := by
  have h1 : a.natAbs ≤ 1073741824 := by omega
  have h2 : b.natAbs ≤ 1073741824 := by omega
  have h3 := Nat.mul_le_mul h1 h2
  rw [← Int.natAbs_mul] at h3
  omega
set_option maxHeartbeats 400000 in
set_option maxRecDepth 100000 in
theorem ppow_rd (N : Nat) (t : Int) (es : Env) (a k : Int) (ht : 3 ≤ t) (ho : t % 2 = 1) (ht' : t ≤ 2147483647) (ha : -((t - 1) / 2) ≤ a ∧ a ≤ (t - 1) / 2) (hk : 0 ≤ k) (hk' : k ≤ 9223372036854775807) : RD Tryz.prog 124 [.ptr 0 0, .v (.int .i64 a), .v (.int .i64 k)] (hV N t es) (fun r => r = .v (.int .i64 (powZ t a k))) (fun _ => False) := by
  refine RD.of ?_ (fun r q => q ▸ .clo (by simp only [Wv.BC])) (fun r q => q.elim) (hV_lo N t es)
  have hB := fun n h1 h2 => RD.hV (pbaln_rd N t es n ht ht' h1 h2)
  generalize hP : powZ t a k = P
  unfold powZ at hP
  unfold hV evC at *
  refine Wv.HTP.by 26 [2, 9, 14, 0, 7, 1, 6] [(1000000, 2)] [.tmp 6] (by kernel_rfl) Tryz.func124 rfl rfl rfl (by kernel_rfl) (by kernel_rfl) (Nat.le_of_ble_eq_true rfl) ?base ?_
  case base => rfl
  simp (maxSteps := 2000000) (disch := first | omega | assumption | (simp only [Wv.Bx, simprocAttr] <;> omega) | fail) only [Wv.B, simprocAttr]
  refine wfor (σ := Nat × Int × Int × Int) (fun s => [(0, .ptr 0 0), (1, .v (.int .i64 s.2.2.1)), (2, .v (.int .i64 s.2.2.2)), (7, .v (.int .i64 s.2.1))]) (fun _ => [some (.blk [.v (.int .i64 N), .v (.int .i64 t), .mp 1]), some (.map (enE N es))])
    (fun s => powG t s.1 s.2.1 s.2.2.1 s.2.2.2 = P ∧ 0 ≤ s.2.2.2 ∧ (s.2.2.2 < 2 ^ s.1 ∧ s.2.2.2 ≤ 9223372036854775807) ∧ (-((t - 1) / 2) ≤ s.2.1 ∧ s.2.1 ≤ (t - 1) / 2) ∧ (-((t - 1) / 2) ≤ s.2.2.1 ∧ s.2.2.1 ≤ (t - 1) / 2)) (fun s => s.1) (64, 1, a, k) ⟨hP, hk, ⟨by show k < 2 ^ 64; omega, hk'⟩, ⟨by show _ ≤ (1 : Int); omega, by show (1 : Int) ≤ _; omega⟩, ha⟩ (by simp (maxSteps := 2000000) (disch := first | omega | assumption | (simp only [Wv.Bx, simprocAttr] <;> omega) | fail) only [Wv.B, simprocAttr]) (by simp (maxSteps := 2000000) (disch := first | omega | assumption | (simp only [Wv.Bx, simprocAttr] <;> omega) | fail) only [Wv.B, simprocAttr]) ?_
  rintro ⟨f, o, a, k⟩ ⟨h1, h2, ⟨h3, hk2⟩, h4, h5⟩
  simp only at h1 h2 h3 h4 h5 hk2
  by_cases h0 : 0 < k
  · obtain ⟨f, rfl⟩ : ∃ g, f = g + 1 := by
      cases f with
      | zero => omega
      | succ g => exact ⟨g, rfl⟩
    have e1 := and_one64 k h2 hk2
    have m1 := mul_in ht' h5 h5
    have m2 := mul_in ht' h4 h5
    have hfd : k.fdiv (2 ^ min 1 64) = k / 2 := Int.fdiv_eq_ediv_of_nonneg k (show (0 : Int) ≤ 2 ^ min 1 64 by decide)
    have n1 := balN_le (n := a * a) ht ho
    have n2 := balN_le (n := o * a) ht ho
    unfold powG at h1
    rw [if_pos h0] at h1
    by_cases hodd : k % 2 = 1
    · rw [if_pos hodd] at h1
      simp (maxSteps := 2000000) (disch := first | omega | assumption | (simp only [Wv.Bx, simprocAttr] <;> omega) | fail) only [Wv.B, simprocAttr, decide_eq_true h0, e1, decide_eq_true hodd]
      refine call_HTP (fst := []) (cap := []) (hB (o * a) (by omega) (by omega) [] (by simp only [Wv.BC]) (by rintro r rfl; simp only [Wv.BC]) (by rintro r h; exact h.elim)) ?_ (by rintro av h' ⟨h, _⟩; exact h.elim)
      rintro av h' ⟨rfl, rfl⟩
      simp (maxSteps := 2000000) (disch := first | omega | assumption | (simp only [Wv.Bx, simprocAttr] <;> omega) | fail) only [Wv.B, simprocAttr]
      refine call_HTP (fst := []) (cap := []) (hB (a * a) (by omega) (by omega) [] (by simp only [Wv.BC]) (by rintro r rfl; simp only [Wv.BC]) (by rintro r h; exact h.elim)) ?_ (by rintro av h' ⟨h, _⟩; exact h.elim)
      rintro av h' ⟨rfl, rfl⟩
      simp (maxSteps := 2000000) (disch := first | omega | assumption | (simp only [Wv.Bx, simprocAttr] <;> omega) | fail) only [Wv.B, simprocAttr, hfd]
      refine k_next (f, balN t (o * a), balN t (a * a), k / 2) ⟨h1, by simp only; omega, by simp only; omega, n2, n1⟩ (by simp only; omega) (by simp (maxSteps := 2000000) (disch := first | omega | assumption | (simp only [Wv.Bx, simprocAttr] <;> omega) | fail) only [Wv.B, simprocAttr]) (by simp (maxSteps := 2000000) (disch := first | omega | assumption | (simp only [Wv.Bx, simprocAttr] <;> omega) | fail) only [Wv.B, simprocAttr])
    · rw [if_neg hodd] at h1
      simp (maxSteps := 2000000) (disch := first | omega | assumption | (simp only [Wv.Bx, simprocAttr] <;> omega) | fail) only [Wv.B, simprocAttr, decide_eq_true h0, e1, decide_eq_false hodd]
      refine call_HTP (fst := []) (cap := []) (hB (a * a) (by omega) (by omega) [] (by simp only [Wv.BC]) (by rintro r rfl; simp only [Wv.BC]) (by rintro r h; exact h.elim)) ?_ (by rintro av h' ⟨h, _⟩; exact h.elim)
      rintro av h' ⟨rfl, rfl⟩
      simp (maxSteps := 2000000) (disch := first | omega | assumption | (simp only [Wv.Bx, simprocAttr] <;> omega) | fail) only [Wv.B, simprocAttr, hfd]
      refine k_next (f, o, balN t (a * a), k / 2) ⟨h1, by simp only; omega, by simp only; omega, h4, n1⟩ (by simp only; omega) (by simp (maxSteps := 2000000) (disch := first | omega | assumption | (simp only [Wv.Bx, simprocAttr] <;> omega) | fail) only [Wv.B, simprocAttr]) (by simp (maxSteps := 2000000) (disch := first | omega | assumption | (simp only [Wv.Bx, simprocAttr] <;> omega) | fail) only [Wv.B, simprocAttr])
  · simp (maxSteps := 2000000) (disch := first | omega | assumption | (simp only [Wv.Bx, simprocAttr] <;> omega) | fail) only [Wv.B, simprocAttr, decide_eq_false h0]
    have : powG t f o a k = o := by
      cases f with
      | zero => rfl
      | succ f => unfold powG; rw [if_neg h0]
    rw [← h1, this]
end Go.Proofs.YtljfgdlgmdcmfaaGreat
