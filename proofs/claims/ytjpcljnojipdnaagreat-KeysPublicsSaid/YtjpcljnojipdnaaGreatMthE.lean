/- Plain numbers: the program's test for primes and the reference's agree below 2^31. They part in which small divisors are tried first; where 3, 5, 11 or 13 divides a number, no other number than these passes the strong tests to 2, 7 and 61: shown by computation. Plain numbers: mPrime n = rPrime n below 2^31. Plain numbers: the two Checks of parameters agree. -/
import Derived.Test.YtjpcljnojipdnaaGreatMthA
/-! Plain numbers: the program's test for primes and the reference's agree below 2^31. They part in which small divisors are tried first; where 3, 5, 11 or 13 divides a number, no other number than these passes the strong tests to 2, 7 and 61: shown by computation. -/
namespace Go.Proofs.YtjpcljnojipdnaaGreat

/-- Of a small prime r: three bases with the signs that their powers to the odd part of n - 1 have modulo n, if r divides n and n passes the tests. -/
structure RD where
  r : Nat
  b1 : Nat
  s1 : Bool
  b2 : Nat
  s2 : Bool
  b3 : Nat
  s3 : Bool

def num (b : Nat) (s : Bool) (o : Nat) : Nat := cond s (b ^ o + 1) (b ^ o - 1)
def gG (D : RD) (o : Nat) : Nat := Nat.gcd (Nat.gcd (num D.b1 D.s1 o) (num D.b2 D.s2 o)) (num D.b3 D.s3 o)
def filt (D : RD) (o q : Nat) : Bool := cond (Nat.beq (D.b1 ^ o % q) (sg D.s1 q)) (cond (Nat.beq (D.b2 ^ o % q) (sg D.s2 q)) (Nat.beq (D.b3 ^ o % q) (sg D.s3 q)) false) false
def bad (n : Nat) : Bool := cond (SPk 2 n) (cond (SPk 7 n) (cond (SPk 61 n) false true) true) true
def badOr (n : Nat) : Bool := cond (Nat.ble 2147483648 n) true (bad n)

def allT (n : Nat) (f : Nat → Bool) : Bool := Nat.rec true (fun k ih => cond (f k) ih false) n
theorem allT_spec (f : Nat → Bool) : ∀ n, allT n f = true → ∀ k, k < n → f k = true := by
  intro n
  induction n with
  | zero => intro _ k hk; omega
  | succ n ih =>
    intro h k hk
    have e : allT (n + 1) f = cond (f n) (allT n f) false := rfl
    rw [e] at h
    cases hf : f n with
    | false => rw [hf] at h; cases h
    | true =>
      rw [hf] at h
      by_cases hkn : k = n
      · rw [hkn]; exact hf
      · exact ih h k (by omega)

/-- In blocks of a thousand. -/
def allM (m : Nat) (f : Nat → Bool) : Bool := allT m fun hi => allT 1000 fun lo => f (hi * 1000 + lo)
theorem allM_spec (f : Nat → Bool) (m : Nat) (h : allM m f = true) (k : Nat) (hk : k < m * 1000) : f k = true := by
  have h1 := allT_spec _ m h (k / 1000) (by omega)
  have h2 := allT_spec _ 1000 h1 (k % 1000) (by omega)
  have : k / 1000 * 1000 + k % 1000 = k := by omega
  rw [this] at h2; exact h2

/-! What is stripped of a gcd: small factors. -/
def strip1 (f : Nat) (fuel : Nat) : Nat → Nat := Nat.rec (fun g => g) (fun _ ih g => cond (Nat.beq (g % f) 0) (force (g / f) ih) g) fuel
theorem strip1_dvd {f q : Nat} (hq : Pr q) (hf : 0 < f) (hfq : f < q) : ∀ fuel g, q ∣ g → q ∣ strip1 f fuel g := by
  intro fuel
  induction fuel with
  | zero => intro g h; exact h
  | succ n ih =>
    intro g h
    have e : strip1 f (n + 1) g = cond (Nat.beq (g % f) 0) (strip1 f n (g / f)) g := by
      show cond _ (force _ _) _ = _
      rw [force_eq]; rfl
    rw [e]
    cases hb : Nat.beq (g % f) 0 with
    | false => exact h
    | true =>
      have h0 : g % f = 0 := Nat.eq_of_beq_eq_true hb
      apply ih
      have hg : g = f * (g / f) := by have := Nat.div_add_mod g f; omega
      rw [hg] at h
      exact hq.euclid h (fun hc => by have := Nat.le_of_dvd hf hc; omega)
theorem strip1_pos {f : Nat} : ∀ fuel g, 0 < g → 0 < strip1 f fuel g := by
  intro fuel
  induction fuel with
  | zero => intro g h; exact h
  | succ n ih =>
    intro g h
    have e : strip1 f (n + 1) g = cond (Nat.beq (g % f) 0) (strip1 f n (g / f)) g := by
      show cond _ (force _ _) _ = _
      rw [force_eq]; rfl
    rw [e]
    cases hb : Nat.beq (g % f) 0 with
    | false => exact h
    | true =>
      have h0 : g % f = 0 := Nat.eq_of_beq_eq_true hb
      apply ih
      have hg : g = f * (g / f) := by have := Nat.div_add_mod g f; omega
      rcases Nat.eq_zero_or_pos (g / f) with hz | hz
      · rw [hz] at hg; omega
      · exact hz

def strip : List Nat → Nat → Nat
  | [], g => g
  | f :: l, g => force (strip1 f 8 g) (strip l)
theorem strip_dvd {q : Nat} (hq : Pr q) : ∀ (l : List Nat) (g : Nat), (∀ f, f ∈ l → 0 < f ∧ f < q) → q ∣ g → q ∣ strip l g := by
  intro l
  induction l with
  | nil => intro g _ h; exact h
  | cons f l ih =>
    intro g hl h
    have e : strip (f :: l) g = strip l (strip1 f 8 g) := by show force _ _ = _; rw [force_eq]
    rw [e]
    have := hl f (by simp)
    exact ih _ (fun f hf => hl f (by simp [hf])) (strip1_dvd hq this.1 this.2 8 g h)
theorem strip_pos : ∀ (l : List Nat) (g : Nat), 0 < g → 0 < strip l g := by
  intro l
  induction l with
  | nil => intro g h; exact h
  | cons f l ih =>
    intro g h
    have e : strip (f :: l) g = strip l (strip1 f 8 g) := by show force _ _ = _; rw [force_eq]
    rw [e]
    exact ih _ (strip1_pos 8 g h)

/-! (A): a prime above 32768. -/
def chkA (D : RD) (l : List Nat) (k : Nat) : Bool :=
  cond (Nat.ble k 1) true (force (oddp (k - 1)) fun o => force (gG D o) fun G => cond (Nat.ble G 32768) true
    (force (strip l G) fun R => allT (R / 32768) fun m => cond (Nat.beq (R % (m + 1)) 0) (force (R / (m + 1) * k) badOr) true))
def allA (D : RD) (l : List Nat) : Bool := allM 66 fun k => cond (Nat.beq (k % D.r) 0) (cond (Nat.beq (k % 2) 1) (chkA D l k) true) true

/-! (B): a prime from 300 to 32768. -/
def goodX (x q : Nat) : Bool := cond (Nat.beq (2 ^ x % q) 1) (cond (Nat.beq (7 ^ x % q) 1) (Nat.beq (61 ^ x % q) 1) false) false
def findc (q : Nat) (c : Nat) : Nat := Nat.rec 1 (fun c ih => cond (Nat.beq ((q - 1) % (c + 1)) 0) (cond (goodX ((q - 1) / (c + 1)) q) (c + 1) ih) ih) c
def minimal (L q : Nat) : Bool :=
  cond (goodX L q) (allT 181 fun d => cond (Nat.beq (L % (d + 1)) 0)
    (cond (cond (Nat.beq d 0) true (cond (goodX (L / (d + 1)) q) false true)) (cond (Nat.beq (d + 1) L) true (cond (goodX (d + 1) q) false true)) false) true) false
def chkB (D : RD) (q : Nat) : Bool :=
  cond (filt D (oddp (q - 1)) q) (force ((q - 1) / findc q 30) fun L => cond (cond (Nat.ble L 32768) (minimal L q) false) (allT (2147483647 / q / L + 1) fun j =>
    force (1 + L * j) fun k => cond (Nat.beq (k % D.r) 0) (force (q * k) badOr) true) false) true
def allB (D : RD) : Bool := allM 33 fun q => cond (Nat.ble q 300) true (cond (Nat.ble 32769 q) true (cond (Nat.beq (q % 2) 1) (chkB D q) true))

/-! (C): all primes up to 300. -/
def subs : List Nat → List Nat
  | [] => [1]
  | q :: l => subs l ++ (subs l).map (q * ·)
def chkC (D : RD) (small : List Nat) : Bool :=
  (allT 301 fun q => cond (Nat.beq (q % 2) 1) (cond (Nat.ble q 2) true (cond (filt D (oddp (q - 1)) q) (small.any (Nat.beq q)) true)) true) &&
  (small.all fun q => Nat.beq (2 ^ (q * (q - 1)) % (q * q)) 1 && !(Nat.beq (2 ^ (q - 1) % (q * q)) 1)) &&
  ((subs small).all fun n => cond (Nat.beq (n % D.r) 0) (cond (Nat.beq n D.r) true (badOr n)) true)

def rd3 : RD := ⟨3, 2, true, 7, false, 61, false⟩
def strip3 : List Nat := [3, 19, 83, 131, 283, 563, 619, 691, 859, 971, 1123, 1259, 1459, 1483, 1571, 1627, 1699, 1811, 1907, 1979, 2099, 2131, 2243, 2467, 2659, 2803, 2819, 3163, 3307, 3491, 3499, 3547, 3659, 3779, 3923, 4051, 4091, 4283, 4651, 4987, 5003, 5011, 5059, 5099, 5171, 5227, 5323, 5563, 5659, 5843, 5851, 5939, 6299, 6691, 6907, 7019, 7027, 7243, 7307, 7451, 7507, 7523, 7691, 7699, 8011, 8147, 8179, 8291, 8419, 8539, 8707, 8867, 8963, 9043, 9467, 9491, 9883, 9931, 10099, 10139, 10267, 10331, 10531, 10723, 10867, 10883, 10939, 10979, 11443, 11483, 11731, 12227, 12323, 12347, 12379, 12491, 12547, 12907, 13163, 13411, 13523, 13691, 13859, 13907, 14411, 14563, 14747, 14843, 14923, 15083, 15259, 15307, 15643, 15739, 15907, 16091, 16187, 16267, 16547, 16763, 16883, 16931, 17099, 17107, 17419, 17443, 17491, 17827, 17939, 18059, 18427, 18539, 18731, 18787, 19211, 19267, 19379, 19403, 19507, 19603, 19739, 19963, 20011, 20347, 20627, 21059, 21187, 21227, 21467, 22067, 22091, 22123, 22147, 22307, 22531, 22571, 22643, 22651, 22739, 22811, 22963, 23099, 23131, 23603, 24043, 24083, 24107, 24251, 24419, 24547, 24659, 25147, 25171, 25667, 25819, 26099, 26227, 26339, 26347, 26459, 26731, 27011, 27179, 27611, 27691, 27739, 27803, 27947, 28019, 28307, 28411, 28643, 28867, 28979, 29027, 29363, 29483, 29851, 30211, 30259, 30427, 30491, 30539, 30763, 30931, 31219, 31307, 31379, 31643, 31723, 31883, 31891, 32003, 32059, 32203, 32371, 32443]
def small3 : List Nat := [3, 19, 83, 131, 283]
theorem a3 : allA rd3 strip3 = true := by decide +kernel
theorem b3 : allB rd3 = true := by decide +kernel
theorem c3 : chkC rd3 small3 = true := by decide +kernel
def rd5 : RD := ⟨5, 4, true, 49, true, 61, false⟩
def strip5 : List Nat := [5, 13, 229, 269, 733, 797, 853, 1181, 1277, 2309, 2693, 2749, 3461, 3533, 3709, 3877, 4133, 4373, 4597, 4861, 5381, 5669, 5869, 6173, 6709, 7573, 7621, 7789, 8221, 8501, 8581, 9029, 9677, 9901, 10253, 10853, 11093, 11549, 11941, 12277, 12829, 12941, 13093, 13789, 13933, 14437, 14461, 14717, 15053, 15277, 15413, 15629, 15973, 16229, 16253, 16421, 16901, 17093, 17909, 17981, 18133, 18413, 18541, 18749, 18773, 19141, 19157, 19661, 20149, 20261, 20389, 20509, 21773, 22109, 22189, 22853, 22861, 23917, 23957, 24197, 24373, 24709, 24889, 25189, 25693, 26501, 26813, 26981, 27109, 27653, 27733, 28069, 28181, 28229, 28573, 28661, 28789, 28793, 29021, 29077, 29581, 29917, 30133, 30253, 30509, 30637, 30757, 31013, 31237, 31541, 32213]
def small5 : List Nat := [5, 13, 229, 269]
theorem a5 : allA rd5 strip5 = true := by decide +kernel
theorem b5 : allB rd5 = true := by decide +kernel
theorem c5 : chkC rd5 small5 = true := by decide +kernel
def rd11 : RD := ⟨11, 2, true, 7, true, 61, true⟩
def strip11 : List Nat := [11, 43, 67, 211, 331, 499, 547, 739, 883, 907, 947, 1019, 1187, 1283, 1499, 1523, 1579, 1619, 1787, 2003, 2011, 2179, 2251, 2339, 2347, 2531, 2843, 2963, 3019, 3067, 3203, 3259, 3347, 3467, 3571, 3691, 3739, 3803, 3851, 4019, 4211, 4363, 4547, 4603, 4643, 4691, 5107, 5147, 5419, 5483, 5867, 5923, 6211, 6323, 6379, 6619, 6659, 6763, 6841, 6883, 6899, 7043, 7219, 7331, 7459, 7547, 7723, 7907, 7963, 8059, 8243, 8387, 8563, 8731, 8747, 9011, 9059, 9283, 9587, 9739, 9811, 9851, 10067, 10091, 10259, 10459, 10651, 10987, 11131, 11491, 11579, 11827, 11867, 11923, 11939, 12107, 12163, 12251, 13003, 13043, 13147, 13267, 13451, 13763, 13931, 14051, 14683, 14779, 14851, 14891, 14939, 14947, 15107, 15187, 15227, 15443, 15451, 15667, 15731, 15971, 16067, 16139, 16843, 16979, 17011, 17033, 17123, 17291, 17467, 17483, 17539, 17579, 17627, 17683, 17707, 17971, 17987, 18211, 18307, 18379, 18523, 18587, 18859, 18979, 19259, 19387, 19427, 19483, 19531, 19819, 19979, 20147, 20323, 20507, 20563, 20707, 20771, 20899, 21211, 21379, 21611, 21683, 21739, 22003, 22051, 22171, 22283, 23003, 23027, 23251, 23291, 23339, 23459, 23563, 24179, 24371, 24851, 24859, 25243, 25307, 25411, 25603, 25643, 25771, 26251, 26387, 26891, 27091, 27259, 27427, 27539, 27763, 27827, 27883, 28123, 28211, 28219, 28403, 28571, 28603, 28627, 28723, 28771, 29059, 29243, 29339, 29611, 29803, 30307, 30347, 30643, 31019, 31147, 31627, 31859, 32027, 32251, 32299, 32323, 32363, 32531, 32603]
def small11 : List Nat := [11, 43, 67, 211]
theorem a11 : allA rd11 strip11 = true := by decide +kernel
theorem b11 : allB rd11 = true := by decide +kernel
theorem c11 : chkC rd11 small11 = true := by decide +kernel
def rd13 : RD := ⟨13, 4, true, 49, true, 61, false⟩
def strip13 : List Nat := [5, 13, 229, 269, 733, 797, 853, 1181, 1277, 2309, 2693, 2749, 3461, 3533, 3709, 3877, 4133, 4373, 4597, 4861, 5381, 5669, 5869, 6173, 6709, 7573, 7621, 7789, 8221, 8501, 8581, 9029, 9677, 9901, 10253, 10853, 11093, 11549, 11941, 12277, 12829, 12941, 13093, 13789, 13933, 14437, 14461, 14717, 15053, 15277, 15413, 15629, 15973, 16229, 16253, 16421, 16901, 17093, 17909, 17981, 18133, 18413, 18541, 18749, 18773, 19141, 19157, 19661, 20149, 20261, 20389, 20509, 21773, 22109, 22189, 22853, 22861, 23917, 23957, 24197, 24373, 24709, 24889, 25189, 25693, 26501, 26813, 26981, 27109, 27653, 27733, 28069, 28181, 28229, 28573, 28661, 28789, 28793, 29021, 29077, 29581, 29917, 30133, 30253, 30509, 30637, 30757, 31013, 31237, 31541, 32213]
def small13 : List Nat := [5, 13, 229, 269]
theorem a13 : allA rd13 strip13 = true := by decide +kernel
theorem b13 : allB rd13 = true := by decide +kernel
theorem c13 : chkC rd13 small13 = true := by decide +kernel
end Go.Proofs.YtjpcljnojipdnaaGreat

/-! Plain numbers: mPrime n = rPrime n below 2^31. -/
namespace Go.Proofs.YtjpcljnojipdnaaGreat

/-- n passes the three tests. -/
structure Pass (n : Nat) : Prop where
  lo : 3 ≤ n
  hi : n < 2147483648
  odd : n % 2 = 1
  n7 : ¬ 7 ∣ n
  n61 : ¬ 61 ∣ n
  p2 : SP 2 n = true
  p7 : SP 7 n = true
  p61 : SP 61 n = true

theorem Pass.not_bad {n : Nat} (h : Pass n) : badOr n = false := by
  have e : Nat.ble 2147483648 n = false := by
    cases hb : Nat.ble 2147483648 n with
    | false => rfl
    | true => have := Nat.le_of_ble_eq_true hb; have := h.hi; omega
  have hi := h.hi; have lo := h.lo
  have e2 : SPk 2 n = true := by rw [← SPk_eq 2 n (by omega) (by omega)]; exact h.p2
  have e7 : SPk 7 n = true := by rw [← SPk_eq 7 n (by omega) (by omega)]; exact h.p7
  have e61 : SPk 61 n = true := by rw [← SPk_eq 61 n (by omega) (by omega)]; exact h.p61
  unfold badOr bad
  rw [e, e2, e7, e61]; rfl

/-- The signs hold modulo n. -/
structure Signs (D : RD) (n : Nat) : Prop where
  h1 : D.b1 ^ oddp (n - 1) % n = sg D.s1 n
  h2 : D.b2 ^ oddp (n - 1) % n = sg D.s2 n
  h3 : D.b3 ^ oddp (n - 1) % n = sg D.s3 n

theorem per {a r T e : Nat} (hr : 2 ≤ r) (hT : a ^ T % r = 1) : a ^ e % r = a ^ (e % T) % r := by
  conv => lhs; rw [← Nat.div_add_mod e T, Nat.pow_add, Nat.mul_mod, pow_one_mul hr hT, Nat.one_mul, Nat.mod_mod]

theorem kind0 {a r T n : Nat} (hr : 2 ≤ r) (hT0 : 0 < T) (hT : a ^ T % r = 1) (hk : ∀ e, e < T → a ^ e % r ≠ r - 1) (hd : r ∣ n) (hn : 0 < n) (h : SP a n = true) : a ^ oddp (n - 1) % n = sg false n := by
  rcases SP_true h with h | ⟨i, _, h⟩
  · exact h
  · have := down_neg hr hd hn h
    rw [per hr hT] at this
    exact absurd this (hk _ (Nat.mod_lt _ hT0))

theorem kind1 {a r T n : Nat} (hr : 2 ≤ r) (hT0 : 0 < T) (hT2 : T % 2 = 0) (hT : a ^ T % r = 1) (hk1 : ∀ e, e < T → e % 2 = 1 → a ^ e % r ≠ 1) (hk : ∀ e, e < T → e % 2 = 0 → a ^ e % r ≠ r - 1)
    (hodd : oddp (n - 1) % 2 = 1) (hd : r ∣ n) (hn : 0 < n) (h : SP a n = true) : a ^ oddp (n - 1) % n = sg true n := by
  rcases SP_true h with h | ⟨i, _, h⟩
  · have := down_one hr hd h
    rw [per hr hT] at this
    exact absurd this (hk1 _ (Nat.mod_lt _ hT0) (by rw [Nat.mod_mod_of_dvd _ (Nat.dvd_of_mod_eq_zero hT2)]; exact hodd))
  · cases i with
    | zero => rw [Nat.pow_zero, Nat.mul_one] at h; exact h
    | succ i =>
      have := down_neg hr hd hn h
      rw [per hr hT] at this
      refine absurd this (hk _ (Nat.mod_lt _ hT0) ?_)
      rw [Nat.mod_mod_of_dvd _ (Nat.dvd_of_mod_eq_zero hT2), Nat.pow_succ, ← Nat.mul_assoc]; omega

theorem kind2 {a r T n : Nat} (hr : 2 ≤ r) (hT0 : 0 < T) (hT4 : T % 4 = 0) (hT : a ^ T % r = 1) (hk1 : ∀ e, e < T → e % 2 = 1 → a ^ e % r ≠ 1 ∧ a ^ e % r ≠ r - 1) (hk : ∀ e, e < T → e % 4 = 0 → a ^ e % r ≠ r - 1)
    (hodd : oddp (n - 1) % 2 = 1) (hd : r ∣ n) (hn : 0 < n) (h : SP a n = true) : (a * a) ^ oddp (n - 1) % n = sg true n := by
  have hT2 : T % 2 = 0 := by omega
  have ho := hk1 _ (Nat.mod_lt (oddp (n - 1)) hT0) (by rw [Nat.mod_mod_of_dvd _ (Nat.dvd_of_mod_eq_zero hT2)]; exact hodd)
  rcases SP_true h with h | ⟨i, _, h⟩
  · have := down_one hr hd h
    rw [per hr hT] at this
    exact absurd this ho.1
  · rcases i with _ | _ | i
    · have := down_neg hr hd hn h
      rw [Nat.pow_zero, Nat.mul_one, per hr hT] at this
      exact absurd this ho.2
    · rw [Nat.mul_comm, Nat.pow_mul] at h
      rw [← Nat.pow_two]; exact h
    · have := down_neg hr hd hn h
      rw [per hr hT] at this
      refine absurd this (hk _ (Nat.mod_lt _ hT0) ?_)
      rw [Nat.mod_mod_of_dvd _ (Nat.dvd_of_mod_eq_zero hT4), Nat.pow_succ, Nat.pow_succ, Nat.mul_assoc, ← Nat.mul_assoc (oddp (n - 1))]; omega

theorem Pass.odd1 {n : Nat} (h : Pass n) : oddp (n - 1) % 2 = 1 ∧ oddp (n - 1) * 2 ^ twos (n - 1) = n - 1 := odd_spec (by have := h.lo; omega) (by have := h.hi; omega)

theorem signs3 {n : Nat} (h : Pass n) (hd : 3 ∣ n) : Signs rd3 n :=
  ⟨kind1 (T := 2) (by decide) (by decide) (by decide) (by decide) (by decide) (by decide) h.odd1.1 hd (by have := h.lo; omega) h.p2,
   kind0 (T := 2) (by decide) (by decide) (by decide) (by decide) hd (by have := h.lo; omega) h.p7,
   kind0 (T := 2) (by decide) (by decide) (by decide) (by decide) hd (by have := h.lo; omega) h.p61⟩
theorem signs5 {n : Nat} (h : Pass n) (hd : 5 ∣ n) : Signs rd5 n :=
  ⟨kind2 (a := 2) (T := 4) (by decide) (by decide) (by decide) (by decide) (by decide) (by decide) h.odd1.1 hd (by have := h.lo; omega) h.p2,
   kind2 (a := 7) (T := 4) (by decide) (by decide) (by decide) (by decide) (by decide) (by decide) h.odd1.1 hd (by have := h.lo; omega) h.p7,
   kind0 (T := 4) (by decide) (by decide) (by decide) (by decide) hd (by have := h.lo; omega) h.p61⟩
theorem signs11 {n : Nat} (h : Pass n) (hd : 11 ∣ n) : Signs rd11 n :=
  ⟨kind1 (T := 10) (by decide) (by decide) (by decide) (by decide) (by decide) (by decide) h.odd1.1 hd (by have := h.lo; omega) h.p2,
   kind1 (T := 10) (by decide) (by decide) (by decide) (by decide) (by decide) (by decide) h.odd1.1 hd (by have := h.lo; omega) h.p7,
   kind1 (T := 10) (by decide) (by decide) (by decide) (by decide) (by decide) (by decide) h.odd1.1 hd (by have := h.lo; omega) h.p61⟩
theorem signs13 {n : Nat} (h : Pass n) (hd : 13 ∣ n) : Signs rd13 n :=
  ⟨kind2 (a := 2) (T := 12) (by decide) (by decide) (by decide) (by decide) (by decide) (by decide) h.odd1.1 hd (by have := h.lo; omega) h.p2,
   kind2 (a := 7) (T := 12) (by decide) (by decide) (by decide) (by decide) (by decide) (by decide) h.odd1.1 hd (by have := h.lo; omega) h.p7,
   kind0 (T := 12) (by decide) (by decide) (by decide) (by decide) hd (by have := h.lo; omega) h.p61⟩

/-- The bases are made of 2, 7 and 61. -/
def Bases (D : RD) : Prop := ∀ b, b = D.b1 ∨ b = D.b2 ∨ b = D.b3 → 2 ≤ b ∧ ∀ q, Pr q → q ≠ 2 → q ≠ 7 → q ≠ 61 → ¬ q ∣ b

theorem pr2 : Pr 2 := ⟨by decide, by intro m hm; have := Nat.le_of_dvd (by decide) hm; rcases (show m = 0 ∨ m = 1 ∨ m = 2 by omega) with rfl | rfl | rfl <;> simp_all⟩
theorem pr_small {p : Nat} (h2 : 2 ≤ p) (h : ∀ m, m ≤ p → m ∣ p → m = 1 ∨ m = p) : Pr p := ⟨h2, fun m hm => h m (Nat.le_of_dvd (by omega) hm) hm⟩
theorem pr7 : Pr 7 := pr_small (by decide) (by decide)
theorem pr61 : Pr 61 := pr_small (by decide) (by decide)
theorem pr_eq {p q : Nat} (hp : Pr p) (hq : Pr q) (h : q ∣ p) : q = p := by
  rcases hp.2 q h with h | h
  · have := hq.1; omega
  · exact h

theorem not_dvd_a {q : Nat} (hq : Pr q) (h2 : q ≠ 2) (h7 : q ≠ 7) (h61 : q ≠ 61) : ¬ q ∣ 2 ∧ ¬ q ∣ 7 ∧ ¬ q ∣ 61 :=
  ⟨fun h => h2 (pr_eq pr2 hq h), fun h => h7 (pr_eq pr7 hq h), fun h => h61 (pr_eq pr61 hq h)⟩
theorem not_dvd_mul {q a b : Nat} (hq : Pr q) (ha : ¬ q ∣ a) (hb : ¬ q ∣ b) : ¬ q ∣ a * b := fun h => hb (hq.euclid h ha)

theorem bases_of {D : RD} (h : ∀ b, b = D.b1 ∨ b = D.b2 ∨ b = D.b3 → b = 2 ∨ b = 7 ∨ b = 61 ∨ b = 2 * 2 ∨ b = 7 * 7) : Bases D := by
  intro b hb
  rcases h b hb with rfl | rfl | rfl | rfl | rfl
  · exact ⟨by decide, fun q hq h2 h7 h61 => (not_dvd_a hq h2 h7 h61).1⟩
  · exact ⟨by decide, fun q hq h2 h7 h61 => (not_dvd_a hq h2 h7 h61).2.1⟩
  · exact ⟨by decide, fun q hq h2 h7 h61 => (not_dvd_a hq h2 h7 h61).2.2⟩
  · exact ⟨by decide, fun q hq h2 h7 h61 => not_dvd_mul hq (not_dvd_a hq h2 h7 h61).1 (not_dvd_a hq h2 h7 h61).1⟩
  · exact ⟨by decide, fun q hq h2 h7 h61 => not_dvd_mul hq (not_dvd_a hq h2 h7 h61).2.1 (not_dvd_a hq h2 h7 h61).2.1⟩

theorem bases3 : Bases rd3 := bases_of (by intro b hb; simp [rd3] at hb; omega)
theorem bases5 : Bases rd5 := bases_of (by intro b hb; simp [rd5] at hb; omega)
theorem bases11 : Bases rd11 := bases_of (by intro b hb; simp [rd11] at hb; omega)
theorem bases13 : Bases rd13 := bases_of (by intro b hb; simp [rd13] at hb; omega)

/-- b^(n-1) = 1 modulo n, out of the sign. -/
theorem full {b n d t : Nat} {s : Bool} (hn : 2 ≤ n) (ht : 1 ≤ t) (hd : d * 2 ^ t = n - 1) (h : b ^ d % n = sg s n) : b ^ (n - 1) % n = 1 := by
  obtain ⟨u, rfl⟩ : ∃ u, t = u + 1 := ⟨t - 1, by omega⟩
  have e : n - 1 = d * 2 * 2 ^ u := by rw [← hd, Nat.pow_succ, Nat.mul_comm (2 ^ u) 2, Nat.mul_assoc]
  rw [e]
  apply pow_one_mul hn
  rw [Nat.pow_mul, Nat.pow_two]
  cases s with
  | true => exact neg_sq hn h
  | false =>
    have h' : b ^ d % n = 1 := h
    rw [Nat.mul_mod, h']; exact Nat.mod_eq_of_lt (by omega)

theorem Pass.two {n : Nat} (h : Pass n) : 1 ≤ twos (n - 1) := by
  have h1 := h.odd1
  rcases Nat.eq_zero_or_pos (twos (n - 1)) with hz | hz
  · rw [hz, Nat.pow_zero, Nat.mul_one] at h1
    have := h.odd; omega
  · exact hz

/-- A prime that divides a number that passes. -/
structure PrOf (q n : Nat) : Prop where
  pr : Pr q
  dvd : q ∣ n
  ge3 : 3 ≤ q
  ne : q ≠ 2 ∧ q ≠ 7 ∧ q ≠ 61

theorem Pass.prOf {n q : Nat} (h : Pass n) (hq : Pr q) (hd : q ∣ n) : PrOf q n := by
  have h2 : q ≠ 2 := by
    intro e; subst e
    have := h.odd; omega
  refine ⟨hq, hd, by have := hq.1; omega, h2, ?_, ?_⟩
  · intro e; subst e; exact h.n7 hd
  · intro e; subst e; exact h.n61 hd

theorem filt_of {D : RD} {n q o s y : Nat} (hP : Pass n) (hS : Signs D n) (hq : PrOf q n) (ho : o % 2 = 1) (hy : o * 2 ^ s = y)
    (h1 : D.b1 ^ y % q = 1) (h2 : D.b2 ^ y % q = 1) (h3 : D.b3 ^ y % q = 1) :
    D.b1 ^ o % q = sg D.s1 q ∧ D.b2 ^ o % q = sg D.s2 q ∧ D.b3 ^ o % q = sg D.s3 q := by
  have hn : 0 < n := by have := hP.lo; omega
  have hq2 := hq.pr.1
  exact ⟨transfer hq.pr hq.ge3 hP.odd1.1 ho hy (down_sg hq2 hq.dvd hn hS.h1) h1,
    transfer hq.pr hq.ge3 hP.odd1.1 ho hy (down_sg hq2 hq.dvd hn hS.h2) h2,
    transfer hq.pr hq.ge3 hP.odd1.1 ho hy (down_sg hq2 hq.dvd hn hS.h3) h3⟩

theorem filt_true {D : RD} {o q : Nat} (h : D.b1 ^ o % q = sg D.s1 q ∧ D.b2 ^ o % q = sg D.s2 q ∧ D.b3 ^ o % q = sg D.s3 q) : filt D o q = true := by
  unfold filt
  rw [h.1, h.2.1, h.2.2, Nat.beq_refl, Nat.beq_refl, Nat.beq_refl]; rfl

/-- The filter at q - 1. -/
theorem filt_q {D : RD} {n q : Nat} (hP : Pass n) (hS : Signs D n) (hB : Bases D) (hq : PrOf q n) (hlt : q < 4294967296) : filt D (oddp (q - 1)) q = true := by
  have ho := odd_spec (m := q - 1) (by have := hq.ge3; omega) (by omega)
  have fer : ∀ b, b = D.b1 ∨ b = D.b2 ∨ b = D.b3 → b ^ (q - 1) % q = 1 := fun b hb => hq.pr.fermat ((hB b hb).2 q hq.pr hq.ne.1 hq.ne.2.1 hq.ne.2.2)
  exact filt_true (filt_of hP hS hq ho.1 ho.2 (fer _ (by simp)) (fer _ (by simp)) (fer _ (by simp)))

/-- b^(k-1) = 1 modulo q, k = n / q. -/
theorem at_k {b n q k : Nat} (hq : PrOf q n) (hn : n = q * k) (hk : 1 ≤ k) (hb : ¬ q ∣ b) (h : b ^ (n - 1) % n = 1) : b ^ (k - 1) % q = 1 := by
  have h1 := down_one hq.pr.1 hq.dvd h
  have e : n - 1 = (q - 1) * k + (k - 1) := by
    obtain ⟨p, rfl⟩ : ∃ p, q = p + 1 := ⟨q - 1, by have := hq.ge3; omega⟩
    rw [hn, Nat.add_sub_cancel, Nat.add_mul, Nat.one_mul]; omega
  rw [e] at h1
  exact pow_one_add (pow_one_mul hq.pr.1 (hq.pr.fermat hb) k) h1

theorem num_dvd {b o q : Nat} {s : Bool} (hq : 2 ≤ q) (h : b ^ o % q = sg s q) : q ∣ num b s o := by
  cases s with
  | false => exact dvd_of_one h
  | true =>
    have h' : b ^ o % q = q - 1 := h
    show q ∣ b ^ o + 1
    have := Nat.div_add_mod (b ^ o) q
    rw [h'] at this
    exact ⟨b ^ o / q + 1, by rw [Nat.mul_add, Nat.mul_one]; omega⟩

theorem num_pos {b o : Nat} {s : Bool} (hb : 2 ≤ b) (ho : o % 2 = 1) : 0 < num b s o := by
  cases s with
  | true => exact Nat.succ_pos _
  | false =>
    show 0 < b ^ o - 1
    have h1 : b ^ 1 ≤ b ^ o := Nat.pow_le_pow_right (by omega) (by omega)
    rw [Nat.pow_one] at h1; omega

theorem caseA {D : RD} {l : List Nat} {n q : Nat} (hP : Pass n) (hS : Signs D n) (hB : Bases D) (hrp : Pr D.r) (hr : D.r ∣ n) (hA : allA D l = true) (hl : ∀ f, f ∈ l → 0 < f ∧ f ≤ 32768) (hq : PrOf q n) (hlt : 32768 < q) (hrq : D.r ≠ q) : False := by
  obtain ⟨k, hk⟩ := hq.dvd
  have hn := hP.hi
  have hlo := hP.lo
  have hk1 : 1 ≤ k := by
    rcases Nat.eq_zero_or_pos k with h | h
    · rw [h] at hk; omega
    · exact h
  have hrk : D.r ∣ k := by
    rw [hk] at hr
    exact hrp.euclid hr (fun h => hrq (pr_eq hq.pr hrp h))
  have hkr : D.r ≤ k := Nat.le_of_dvd (by omega) hrk
  have hr2 := hrp.1
  have hkb : k < 66000 := by
    apply Classical.byContradiction; intro hc
    have : 32769 * 66000 ≤ q * k := Nat.mul_le_mul (by omega) (by omega)
    omega
  have hkodd : k % 2 = 1 := by
    have h := hP.odd
    rw [hk, Nat.mul_mod] at h
    rcases Nat.mod_two_eq_zero_or_one k with h0 | h0
    · rw [h0] at h; simp at h
    · exact h0
  have hc := allM_spec _ _ hA k hkb
  rw [show Nat.beq (k % D.r) 0 = true by rw [Nat.mod_eq_zero_of_dvd hrk]; rfl, show Nat.beq (k % 2) 1 = true by rw [hkodd]; rfl] at hc
  have hc : chkA D l k = true := hc
  unfold chkA at hc
  rw [show Nat.ble k 1 = false by
    cases hb : Nat.ble k 1 with
    | false => rfl
    | true => have := Nat.le_of_ble_eq_true hb; omega] at hc
  have hc : force (oddp (k - 1)) (fun o => force (gG D o) fun G => cond (Nat.ble G 32768) true
    (force (strip l G) fun R => allT (R / 32768) fun m => cond (Nat.beq (R % (m + 1)) 0) (force (R / (m + 1) * k) badOr) true)) = true := hc
  rw [force_eq, force_eq] at hc
  have ho := odd_spec (m := k - 1) (by omega) (by omega)
  have full' : ∀ b s, (b = D.b1 ∨ b = D.b2 ∨ b = D.b3) → b ^ oddp (n - 1) % n = sg s n → b ^ (k - 1) % q = 1 := fun b s hb h =>
    at_k hq hk hk1 ((hB b hb).2 q hq.pr hq.ne.1 hq.ne.2.1 hq.ne.2.2) (full (by omega) hP.two hP.odd1.2 h)
  obtain ⟨f1, f2, f3⟩ := filt_of hP hS hq ho.1 ho.2 (full' _ _ (by simp) hS.h1) (full' _ _ (by simp) hS.h2) (full' _ _ (by simp) hS.h3)
  have hq2 := hq.pr.1
  have hG : q ∣ gG D (oddp (k - 1)) := Nat.dvd_gcd (Nat.dvd_gcd (num_dvd hq2 f1) (num_dvd hq2 f2)) (num_dvd hq2 f3)
  have hG0 : 0 < gG D (oddp (k - 1)) := Nat.gcd_pos_of_pos_right _ (num_pos (hB _ (by simp)).1 ho.1)
  generalize gG D (oddp (k - 1)) = G at hc hG hG0
  cases hb : Nat.ble G 32768 with
  | true =>
    have h1 := Nat.le_of_ble_eq_true hb
    have h2 := Nat.le_of_dvd hG0 hG
    omega
  | false =>
    rw [hb] at hc
    have hc : force (strip l G) (fun R => allT (R / 32768) fun m => cond (Nat.beq (R % (m + 1)) 0) (force (R / (m + 1) * k) badOr) true) = true := hc
    rw [force_eq] at hc
    have hR := strip_dvd hq.pr l G (fun f hf => ⟨(hl f hf).1, by have := (hl f hf).2; omega⟩) hG
    have hR0 := strip_pos l G hG0
    generalize strip l G = R at hc hR hR0
    obtain ⟨m, hm⟩ := hR
    have hm1 : 1 ≤ m := by
      rcases Nat.eq_zero_or_pos m with h | h
      · rw [h] at hm; omega
      · exact h
    have hle : m ≤ R / 32768 := by
      rw [Nat.le_div_iff_mul_le (by omega), hm, Nat.mul_comm q]
      exact Nat.mul_le_mul_left m (by omega)
    have h5 := allT_spec _ _ hc (m - 1) (by omega)
    rw [show m - 1 + 1 = m by omega, show R % m = 0 by rw [hm]; exact Nat.mul_mod_left q m] at h5
    have h5 : force (R / m * k) badOr = true := h5
    rw [force_eq, show R / m = q by rw [hm]; exact Nat.mul_div_cancel q (by omega), ← hk, hP.not_bad] at h5
    cases h5

theorem good_iff {x q : Nat} : goodX x q = true ↔ 2 ^ x % q = 1 ∧ 7 ^ x % q = 1 ∧ 61 ^ x % q = 1 := by
  unfold goodX
  constructor
  · intro h
    cases h1 : Nat.beq (2 ^ x % q) 1 with
    | false => rw [h1] at h; cases h
    | true =>
      cases h2 : Nat.beq (7 ^ x % q) 1 with
      | false => rw [h1, h2] at h; cases h
      | true =>
        rw [h1, h2] at h
        exact ⟨Nat.eq_of_beq_eq_true h1, Nat.eq_of_beq_eq_true h2, Nat.eq_of_beq_eq_true h⟩
  · rintro ⟨h1, h2, h3⟩
    rw [h1, h2, h3]; rfl

theorem goodX_dvd {x y q : Nat} (hq : 2 ≤ q) (h : goodX x q = true) (hd : x ∣ y) : goodX y q = true := by
  obtain ⟨h1, h2, h3⟩ := good_iff.1 h
  exact good_iff.2 ⟨pow_one_dvd hq h1 hd, pow_one_dvd hq h2 hd, pow_one_dvd hq h3 hd⟩

theorem goodX_gcd {x y q : Nat} (hq : 2 ≤ q) (h : goodX x q = true) (h' : goodX y q = true) : goodX (Nat.gcd x y) q = true := by
  obtain ⟨h1, h2, h3⟩ := good_iff.1 h
  obtain ⟨g1, g2, g3⟩ := good_iff.1 h'
  exact good_iff.2 ⟨pow_gcd hq _ _ h1 g1, pow_gcd hq _ _ h2 g2, pow_gcd hq _ _ h3 g3⟩

theorem minimal_dvd {L q y : Nat} (hq : 2 ≤ q) (hL0 : 0 < L) (hL : L ≤ 32768) (hm : minimal L q = true) (hy : goodX y q = true) : L ∣ y := by
  unfold minimal at hm
  cases hg : goodX L q with
  | false => rw [hg] at hm; cases hm
  | true =>
    rw [hg] at hm
    have hm : allT 181 (fun d => cond (Nat.beq (L % (d + 1)) 0) (cond (cond (Nat.beq d 0) true (cond (goodX (L / (d + 1)) q) false true)) (cond (Nat.beq (d + 1) L) true (cond (goodX (d + 1) q) false true)) false) true) = true := hm
    have hall : ∀ d, d < 181 → L % (d + 1) = 0 → (d = 0 ∨ goodX (L / (d + 1)) q = false) ∧ (d + 1 = L ∨ goodX (d + 1) q = false) := by
      intro d hd h0
      have h := allT_spec _ 181 hm d hd
      rw [h0] at h
      have h : cond (cond (Nat.beq d 0) true (cond (goodX (L / (d + 1)) q) false true)) (cond (Nat.beq (d + 1) L) true (cond (goodX (d + 1) q) false true)) false = true := h
      constructor
      · cases hb : Nat.beq d 0 with
        | true => exact .inl (Nat.eq_of_beq_eq_true hb)
        | false =>
          right
          rw [hb] at h
          cases hx : goodX (L / (d + 1)) q with
          | false => rfl
          | true => rw [hx] at h; cases h
      · cases hb : Nat.beq (d + 1) L with
        | true => exact .inl (Nat.eq_of_beq_eq_true hb)
        | false =>
          right
          cases hx : goodX (d + 1) q with
          | false => rfl
          | true =>
            rw [hb, hx] at h
            cases hc1 : cond (Nat.beq d 0) true (cond (goodX (L / (d + 1)) q) false true) with
            | true => rw [hc1] at h; cases h
            | false => rw [hc1] at h; cases h
    have hgg := goodX_gcd hq hg hy
    obtain ⟨m, hm'⟩ := Nat.gcd_dvd_left L y
    by_cases h1 : m = 1
    · rw [h1, Nat.mul_one] at hm'
      rw [hm']; exact Nat.gcd_dvd_right L y
    · exfalso
      have hm0 : m ≠ 0 := by intro e; rw [e] at hm'; omega
      obtain ⟨p, hp, hpm⟩ := exists_pr m (by omega)
      obtain ⟨c, hc⟩ := hpm
      have hLp : L = p * (Nat.gcd L y * c) := by
        rw [hc] at hm'
        rw [Nat.mul_left_comm]; exact hm'
      have hp0 := hp.1
      have hdiv : L / p = Nat.gcd L y * c := by
        have : p * (Nat.gcd L y * c) / p = Nat.gcd L y * c := Nat.mul_div_cancel_left _ (by omega)
        rw [← hLp] at this; exact this
      have hgood : goodX (L / p) q = true := by rw [hdiv]; exact goodX_dvd hq hgg (Nat.dvd_mul_right _ _)
      by_cases hp181 : p ≤ 181
      · have hmod : L % p = 0 := by rw [hLp]; exact Nat.mul_mod_right _ _
        have := (hall (p - 1) (by omega) (by rw [show p - 1 + 1 = p by omega]; exact hmod)).1
        rw [show p - 1 + 1 = p by omega, hgood] at this
        rcases this with h | h
        · omega
        · cases h
      · have he : L / p ≤ 180 := by
          have : L / p ≤ 32768 / 182 := Nat.le_trans (Nat.div_le_div_right hL) (Nat.div_le_div_left (by omega) (by omega))
          omega
        have hLe : L = p * (L / p) := by rw [hdiv]; exact hLp
        have he0 : 0 < L / p := by
          rcases Nat.eq_zero_or_pos (L / p) with h | h
          · rw [h] at hLe; omega
          · exact h
        have hmod : L % (L / p) = 0 := by
          conv => lhs; rw [hLe]
          have : p * (L / p) / p = L / p := Nat.mul_div_cancel_left _ (by omega)
          rw [this]; exact Nat.mul_mod_left _ _
        have := (hall (L / p - 1) (by omega) (by rw [show L / p - 1 + 1 = L / p by omega]; exact hmod)).2
        rw [show L / p - 1 + 1 = L / p by omega, hgood] at this
        rcases this with h | h
        · have : p * (L / p) ≥ 2 * (L / p) := Nat.mul_le_mul_right _ hp0
          omega
        · cases h

theorem caseB {D : RD} {n q : Nat} (hP : Pass n) (hS : Signs D n) (hB : Bases D) (hrp : Pr D.r) (hr : D.r ∣ n) (hA : allB D = true) (hq : PrOf q n) (hlo : 300 < q) (hlt : q ≤ 32768) (hrq : D.r ≠ q) : False := by
  obtain ⟨k, hk⟩ := hq.dvd
  have hn := hP.hi
  have hn3 := hP.lo
  have hk1 : 1 ≤ k := by
    rcases Nat.eq_zero_or_pos k with h | h
    · rw [h] at hk; omega
    · exact h
  have hrk : D.r ∣ k := by
    rw [hk] at hr
    exact hrp.euclid hr (fun h => hrq (pr_eq hq.pr hrp h))
  have hqodd : q % 2 = 1 := by
    have h := hP.odd
    rw [hk, Nat.mul_mod] at h
    rcases Nat.mod_two_eq_zero_or_one q with h0 | h0
    · rw [h0] at h; simp at h
    · exact h0
  have hc := allM_spec _ _ hA q (by omega)
  rw [show Nat.ble q 300 = false by
      cases hb : Nat.ble q 300 with
      | false => rfl
      | true => have := Nat.le_of_ble_eq_true hb; omega,
    show Nat.ble 32769 q = false by
      cases hb : Nat.ble 32769 q with
      | false => rfl
      | true => have := Nat.le_of_ble_eq_true hb; omega, show Nat.beq (q % 2) 1 = true by rw [hqodd]; rfl] at hc
  have hc : chkB D q = true := hc
  unfold chkB at hc
  rw [filt_q hP hS hB hq (by omega)] at hc
  have hc : force ((q - 1) / findc q 30) (fun L => cond (cond (Nat.ble L 32768) (minimal L q) false) (allT (2147483647 / q / L + 1) fun j =>
    force (1 + L * j) fun k => cond (Nat.beq (k % D.r) 0) (force (q * k) badOr) true) false) = true := hc
  rw [force_eq] at hc
  generalize (q - 1) / findc q 30 = L at hc
  cases hL : Nat.ble L 32768 with
  | false => rw [hL] at hc; cases hc
  | true =>
    cases hm : minimal L q with
    | false => rw [hL, hm] at hc; cases hc
    | true =>
      rw [hL, hm] at hc
      have hc : allT (2147483647 / q / L + 1) (fun j => force (1 + L * j) fun k => cond (Nat.beq (k % D.r) 0) (force (q * k) badOr) true) = true := hc
      have hL2 := Nat.le_of_ble_eq_true hL
      have nd := not_dvd_a hq.pr hq.ne.1 hq.ne.2.1 hq.ne.2.2
      have hq2 := hq.pr.1
      have fullA : ∀ a, SP a n = true → a ^ (n - 1) % n = 1 := by
        intro a ha
        rcases SP_true ha with h | ⟨i, hi, h⟩
        · exact full (s := false) (by omega) hP.two hP.odd1.2 h
        · have e : n - 1 = oddp (n - 1) * 2 ^ i * 2 * 2 ^ (twos (n - 1) - i - 1) := by
            conv => lhs; rw [← hP.odd1.2]
            rw [Nat.mul_assoc, Nat.mul_assoc, ← Nat.pow_succ', ← Nat.pow_add]
            congr 2; omega
          conv => lhs; rw [e]
          apply pow_one_mul (by omega)
          rw [Nat.pow_mul, Nat.pow_two]
          exact neg_sq (by omega) h
      have hgood : goodX (k - 1) q = true := good_iff.2 ⟨at_k hq hk hk1 nd.1 (fullA 2 hP.p2), at_k hq hk hk1 nd.2.1 (fullA 7 hP.p7), at_k hq hk hk1 nd.2.2 (fullA 61 hP.p61)⟩
      have hL0 : 0 < L := by
        rcases Nat.eq_zero_or_pos L with h | h
        · exfalso
          rw [h] at hm
          have h0 := allT_spec (fun d => cond (Nat.beq (0 % (d + 1)) 0) (cond (cond (Nat.beq d 0) true (cond (goodX (0 / (d + 1)) q) false true)) (cond (Nat.beq (d + 1) 0) true (cond (goodX (d + 1) q) false true)) false) true) 181 (by
            unfold minimal at hm
            cases hg : goodX 0 q with
            | false => rw [hg] at hm; cases hm
            | true => rw [hg] at hm; exact hm) 1 (by omega)
          have hz : goodX (0 / (1 + 1)) q = true := by
            apply good_iff.2
            have : 1 % q = 1 := Nat.mod_eq_of_lt (by omega)
            exact ⟨this, this, this⟩
          rw [hz] at h0
          cases h0
        · exact h
      obtain ⟨j, hj⟩ := minimal_dvd hq2 hL0 hL2 hm hgood
      have hkj : k = 1 + L * j := by omega
      have hjb : j < 2147483647 / q / L + 1 := by
        have h1 : L * j ≤ 2147483647 / q := by
          rw [Nat.le_div_iff_mul_le (by omega)]
          have : k * q ≤ 2147483647 := by rw [Nat.mul_comm, ← hk]; omega
          have h2 : L * j * q ≤ k * q := Nat.mul_le_mul_right q (by omega)
          omega
        have h2 : j ≤ 2147483647 / q / L := by
          rw [Nat.le_div_iff_mul_le hL0, Nat.mul_comm]; exact h1
        omega
      have h5 := allT_spec _ _ hc j hjb
      have h5 : force (1 + L * j) (fun k => cond (Nat.beq (k % D.r) 0) (force (q * k) badOr) true) = true := h5
      rw [force_eq, ← hkj, show Nat.beq (k % D.r) 0 = true by rw [Nat.mod_eq_zero_of_dvd hrk]; rfl] at h5
      have h5 : force (q * k) badOr = true := h5
      rw [force_eq, ← hk, hP.not_bad] at h5
      cases h5

theorem subs_of : ∀ (l : List Nat) (n : Nat), 0 < n → (∀ p, Pr p → p ∣ n → p ∈ l) → (∀ p, p ∈ l → Pr p → ¬ p * p ∣ n) → n ∈ subs l := by
  intro l
  induction l with
  | nil =>
    intro n h0 h _
    have : n = 1 := by
      apply Classical.byContradiction
      intro hc
      obtain ⟨p, hp, hd⟩ := exists_pr n (by omega)
      have := h p hp hd
      simp at this
    rw [this]; simp [subs]
  | cons q l ih =>
    intro n h0 h hs
    unfold subs
    rw [List.mem_append]
    by_cases hq : Pr q ∧ q ∣ n
    · obtain ⟨hqp, m, hm⟩ := hq
      right
      rw [List.mem_map]
      have hm0 : 0 < m := by
        rcases Nat.eq_zero_or_pos m with e | e
        · rw [e] at hm; omega
        · exact e
      refine ⟨m, ih m hm0 ?_ ?_, hm.symm⟩
      · intro p hp hd
        have hpn : p ∣ n := by rw [hm]; exact Nat.dvd_trans hd (Nat.dvd_mul_left _ _)
        have := h p hp hpn
        rw [List.mem_cons] at this
        rcases this with e | e
        · exfalso
          subst e
          exact hs p (by simp) hp (by rw [hm]; exact Nat.mul_dvd_mul (Nat.dvd_refl p) hd)
        · exact e
      · intro p hp hpp hd
        exact hs p (by simp [hp]) hpp (by rw [hm]; exact Nat.dvd_trans hd (Nat.dvd_mul_left _ _))
    · left
      refine ih n h0 ?_ (fun p hp hpp => hs p (by simp [hp]) hpp)
      intro p hp hd
      have := h p hp hd
      rw [List.mem_cons] at this
      rcases this with e | e
      · exfalso; subst e; exact hq ⟨hp, hd⟩
      · exact e

theorem caseC {D : RD} {small : List Nat} {n : Nat} (hP : Pass n) (hS : Signs D n) (hB : Bases D) (hr : D.r ∣ n) (hC : chkC D small = true) (hall : ∀ q, Pr q → q ∣ n → q ≤ 300) : n = D.r := by
  unfold chkC at hC
  simp only [Bool.and_eq_true] at hC
  obtain ⟨⟨c1, c2⟩, c3⟩ := hC
  have hn3 := hP.lo
  have mem : ∀ q, Pr q → q ∣ n → q ∈ small := by
    intro q hq hd
    have hof := hP.prOf hq hd
    have h := allT_spec _ _ c1 q (by have := hall q hq hd; omega)
    have hqodd : q % 2 = 1 := by
      have h := hP.odd
      obtain ⟨k, hk⟩ := hd
      rw [hk, Nat.mul_mod] at h
      rcases Nat.mod_two_eq_zero_or_one q with h0 | h0
      · rw [h0] at h; simp at h
      · exact h0
    rw [show Nat.beq (q % 2) 1 = true by rw [hqodd]; rfl, show Nat.ble q 2 = false by
      cases hb : Nat.ble q 2 with
      | false => rfl
      | true => have := Nat.le_of_ble_eq_true hb; have := hof.ge3; omega, filt_q hP hS hB hof (by have := hall q hq hd; omega)] at h
    have h : small.any (Nat.beq q) = true := h
    obtain ⟨x, hx, he⟩ := List.any_eq_true.1 h
    rw [Nat.eq_of_beq_eq_true he]; exact hx
  have sq : ∀ q, q ∈ small → Pr q → ¬ q * q ∣ n := by
    intro q hq hqp hd
    have hqn : q ∣ n := Nat.dvd_trans (Nat.dvd_mul_right q q) hd
    have h := List.all_eq_true.1 c2 q hq
    simp only [Bool.and_eq_true, Bool.not_eq_true'] at h
    obtain ⟨h1, h2⟩ := h
    have h1 := Nat.eq_of_beq_eq_true h1
    have h2 := Nat.ne_of_beq_eq_false h2
    have hq2 := hqp.1
    have hqq : 2 ≤ q * q := Nat.le_trans hq2 (Nat.le_mul_of_pos_left q (by omega))
    apply h2
    have hb : 2 ^ (n - 1) % n = 1 := by
      rcases SP_true hP.p2 with h | ⟨i, hi, h⟩
      · exact full (s := false) (by omega) hP.two hP.odd1.2 h
      · have e : n - 1 = oddp (n - 1) * 2 ^ i * 2 * 2 ^ (twos (n - 1) - i - 1) := by
          conv => lhs; rw [← hP.odd1.2]
          rw [Nat.mul_assoc, Nat.mul_assoc, ← Nat.pow_succ', ← Nat.pow_add]
          congr 2; omega
        conv => lhs; rw [e]
        apply pow_one_mul (by omega)
        rw [Nat.pow_mul, Nat.pow_two]
        exact neg_sq (by omega) h
    have hb2 := down_one hqq hd hb
    have hg := pow_gcd hqq (n - 1) (q * (q - 1)) hb2 h1
    have hcop : Nat.gcd (n - 1) q = 1 := by
      rw [Nat.gcd_comm]
      apply hqp.coprime
      intro hc
      have : q ∣ n - (n - 1) := Nat.dvd_sub hqn hc
      rw [show n - (n - 1) = 1 by omega] at this
      have := Nat.le_of_dvd (by omega) this
      omega
    have hdv : Nat.gcd (n - 1) (q * (q - 1)) ∣ q - 1 := by
      have := Nat.gcd_mul_right_dvd_mul_gcd (n - 1) q (q - 1)
      rw [hcop, Nat.one_mul] at this
      exact Nat.dvd_trans this (Nat.gcd_dvd_right _ _)
    exact pow_one_dvd hqq hg hdv
  have hin := subs_of small n (by omega) mem sq
  have h := List.all_eq_true.1 c3 n hin
  rw [show Nat.beq (n % D.r) 0 = true by rw [Nat.mod_eq_zero_of_dvd hr]; rfl] at h
  have h : cond (Nat.beq n D.r) true (badOr n) = true := h
  cases hb : Nat.beq n D.r with
  | true => exact Nat.eq_of_beq_eq_true hb
  | false =>
    rw [hb] at h
    have h : badOr n = true := h
    rw [hP.not_bad] at h; cases h

theorem only_r {D : RD} {l small : List Nat} {n : Nat} (hP : Pass n) (hS : Signs D n) (hB : Bases D) (hrp : Pr D.r) (hr3 : D.r ≤ 300) (hr : D.r ∣ n) (hA : allA D l = true) (hl : ∀ f, f ∈ l → 0 < f ∧ f ≤ 32768) (hBB : allB D = true) (hC : chkC D small = true) : n = D.r := by
  apply caseC hP hS hB hr hC
  intro q hq hd
  apply Classical.byContradiction
  intro hc
  have hof := hP.prOf hq hd
  by_cases hbig : 32768 < q
  · exact caseA hP hS hB hrp hr hA hl hof hbig (by omega)
  · exact caseB hP hS hB hrp hr hBB hof (by omega) (by omega) (by omega)

theorem l3 : ∀ f, f ∈ strip3 → 0 < f ∧ f ≤ 32768 := by decide +kernel
theorem l5 : ∀ f, f ∈ strip5 → 0 < f ∧ f ≤ 32768 := by decide +kernel
theorem l11 : ∀ f, f ∈ strip11 → 0 < f ∧ f ≤ 32768 := by decide +kernel
theorem l13 : ∀ f, f ∈ strip13 → 0 < f ∧ f ≤ 32768 := by decide +kernel
theorem pr3 : Pr 3 := pr_small (by decide) (by decide)
theorem pr5 : Pr 5 := pr_small (by decide) (by decide)
theorem pr11 : Pr 11 := pr_small (by decide) (by decide)
theorem pr13 : Pr 13 := pr_small (by decide) (by decide)

theorem only3 {n : Nat} (hP : Pass n) (h : 3 ∣ n) : n = 3 := only_r (D := rd3) hP (signs3 hP h) bases3 pr3 (by decide) h a3 l3 b3 c3
theorem only5 {n : Nat} (hP : Pass n) (h : 5 ∣ n) : n = 5 := only_r (D := rd5) hP (signs5 hP h) bases5 pr5 (by decide) h a5 l5 b5 c5
theorem only11 {n : Nat} (hP : Pass n) (h : 11 ∣ n) : n = 11 := only_r (D := rd11) hP (signs11 hP h) bases11 pr11 (by decide) h a11 l11 b11 c11
theorem only13 {n : Nat} (hP : Pass n) (h : 13 ∣ n) : n = 13 := only_r (D := rd13) hP (signs13 hP h) bases13 pr13 (by decide) h a13 l13 b13 c13

theorem rPrime_iff (n : Nat) : rPrime n = true ↔ n = 2 ∨ n = 7 ∨ n = 61 ∨ (2 < n ∧ n % 2 = 1 ∧ 0 < n % 7 ∧ 0 < n % 61 ∧ SP 2 n = true ∧ SP 7 n = true ∧ SP 61 n = true) := by
  unfold rPrime
  simp only [Bool.or_eq_true, Bool.and_eq_true, beq_iff_eq, decide_eq_true_eq]
  constructor
  · rintro (((h | h) | h) | ⟨⟨⟨⟨⟨⟨h1, h2⟩, h3⟩, h4⟩, h5⟩, h6⟩, h7⟩)
    · exact .inl h
    · exact .inr (.inl h)
    · exact .inr (.inr (.inl h))
    · exact .inr (.inr (.inr ⟨h1, h2, h3, h4, h5, h6, h7⟩))
  · rintro (h | h | h | ⟨h1, h2, h3, h4, h5, h6, h7⟩)
    · exact .inl (.inl (.inl h))
    · exact .inl (.inl (.inr h))
    · exact .inl (.inr h)
    · exact .inr ⟨⟨⟨⟨⟨⟨h1, h2⟩, h3⟩, h4⟩, h5⟩, h6⟩, h7⟩

/-- THE TWO TESTS AGREE. -/
theorem prime_eq {n : Nat} (hn : n < 2147483648) : mPrime n = rPrime n := by
  by_cases h2 : n < 2
  · have e1 : mPrime n = false := by unfold mPrime; rw [if_pos h2]
    rw [e1]
    symm
    rw [← Bool.not_eq_true, rPrime_iff]
    omega
  · by_cases hno : ∀ p, p ∈ smalls → n % p ≠ 0
    · have hf : smalls.find? (fun p => n % p == 0) = none := List.find?_eq_none.2 (by intro q hq; simpa using hno q hq)
      have e1 : mPrime n = (SP 2 n && (SP 7 n && SP 61 n)) := by
        unfold mPrime; rw [if_neg h2, hf]
      have d2 := hno 2 (by decide); have d7 := hno 7 (by decide); have d61 := hno 61 (by decide)
      rw [e1, Bool.eq_iff_iff, rPrime_iff]
      simp only [Bool.and_eq_true]
      constructor
      · rintro ⟨h5, h6, h7⟩
        exact .inr (.inr (.inr ⟨by omega, by omega, by omega, by omega, h5, h6, h7⟩))
      · rintro (h | h | h | ⟨_, _, _, _, h5, h6, h7⟩)
        · rw [h] at d2; exact absurd rfl d2
        · rw [h] at d7; exact absurd rfl d7
        · rw [h] at d61; exact absurd rfl d61
        · exact ⟨h5, h6, h7⟩
    · have hex : ∃ p, smalls.find? (fun p => n % p == 0) = some p := by
        cases hf : smalls.find? (fun p => n % p == 0) with
        | some p => exact ⟨p, rfl⟩
        | none =>
          exfalso; apply hno
          intro p hp
          have := List.find?_eq_none.1 hf p hp
          simpa using this
      obtain ⟨p, hf⟩ := hex
      have e1 : mPrime n = (n == p) := by unfold mPrime; rw [if_neg h2, hf]
      have hmem := List.mem_of_find?_eq_some hf
      have hdiv : n % p = 0 := by have := List.find?_some hf; simpa using this
      rw [e1, Bool.eq_iff_iff, beq_iff_eq]
      constructor
      · intro h
        subst h
        have all : ∀ q, q ∈ smalls → rPrime q = true := by
          intro q hq
          simp only [smalls, List.mem_cons, List.not_mem_nil, or_false] at hq
          rcases hq with rfl | rfl | rfl | rfl | rfl | rfl | rfl <;> (rw [rPrimeK_eq _ (by omega)]; decide +kernel)
        exact all n hmem
      · intro hr
        rw [rPrime_iff] at hr
        have hdv : p ∣ n := Nat.dvd_of_mod_eq_zero hdiv
        simp only [smalls, List.mem_cons, List.not_mem_nil, or_false] at hmem
        rcases hr with rfl | rfl | rfl | ⟨h1, h3, h4, h5, h6, h7, h8⟩
        · have := Nat.le_of_dvd (by omega) hdv
          rcases hmem with rfl | rfl | rfl | rfl | rfl | rfl | rfl <;> omega
        · have hle := Nat.le_of_dvd (by omega) hdv
          rcases hmem with rfl | rfl | rfl | rfl | rfl | rfl | rfl <;> simp_all
        · have hle := Nat.le_of_dvd (by omega) hdv
          rcases hmem with rfl | rfl | rfl | rfl | rfl | rfl | rfl <;> simp_all
        · have hP : Pass n := ⟨by omega, hn, h3, fun h => by have := Nat.mod_eq_zero_of_dvd h; omega, fun h => by have := Nat.mod_eq_zero_of_dvd h; omega, h6, h7, h8⟩
          rcases hmem with rfl | rfl | rfl | rfl | rfl | rfl | rfl
          · omega
          · exact only3 hP hdv
          · exact only5 hP hdv
          · omega
          · exact only11 hP hdv
          · exact only13 hP hdv
          · omega
end Go.Proofs.YtjpcljnojipdnaaGreat

/-! Plain numbers: the two Checks of parameters agree. -/
namespace Go.Proofs.YtjpcljnojipdnaaGreat

theorem powv_eq (n : Int) (p : Nat) (e : Int) : powv mPrime n p e = powv rPrime n p e := by
  by_cases h : p < 65536
  · unfold powv; rw [prime_eq (show p < 2147483648 by omega)]
  · rw [powv_no (by omega), powv_no (by omega)]

theorem goodS_eq (s q : Nat) : goodS mPrime s q = goodS rPrime s q := by
  unfold goodS
  by_cases h : q ≤ 2147483647
  · rw [prime_eq (by omega)]
  · rw [decide_eq_false h]; rfl

theorem t_eq (x : Par) : x.t mPrime = x.t rPrime := powv_eq _ _ _
theorem badB_eq (s sp q : Nat) : badB mPrime s sp q = badB rPrime s sp q := by unfold badB; rw [goodS_eq]

theorem okB_eq (x : Par) : okB mPrime x = okB rPrime x := by
  unfold okB stepOf
  rw [t_eq, goodS_eq]
  congr 7
  congr 1
  exact funext fun q => badB_eq _ _ q

theorem chk_eq (x : Par) : chk mPrime x = chk rPrime x := by unfold chk; rw [okB_eq]
end Go.Proofs.YtjpcljnojipdnaaGreat
