/- Plain numbers: the program's test for primes and the reference's agree below 2^31. They part in which small divisors are tried first; where 3, 5, 11 or 13 divides a number, no other number than these passes the strong tests to 2, 7 and 61: shown by computation. -/
import Derived.Test.YtjfjbkocopaehaaMathD
namespace Go.Proofs.Ytjfjbkocopaehaa

/-- Of a small prime r: three bases with the signs that their powers to the odd part of n - 1 have modulo n, if r divides n and n passes the tests. -/
structure RD where
  r : Nat
  b1 : Nat
  s1 : Bool
  b2 : Nat
  s2 : Bool
  b3 : Nat
  s3 : Bool

def num (b : Nat) (s : Bool) (o : Nat) : Nat := cond s (b ^ o + 1) (b ^ o - 1)
def gG (D : RD) (o : Nat) : Nat := Nat.gcd (Nat.gcd (num D.b1 D.s1 o) (num D.b2 D.s2 o)) (num D.b3 D.s3 o)
def filt (D : RD) (o q : Nat) : Bool := cond (Nat.beq (D.b1 ^ o % q) (sg D.s1 q)) (cond (Nat.beq (D.b2 ^ o % q) (sg D.s2 q)) (Nat.beq (D.b3 ^ o % q) (sg D.s3 q)) false) false
def bad (n : Nat) : Bool := cond (SPk 2 n) (cond (SPk 7 n) (cond (SPk 61 n) false true) true) true
def badOr (n : Nat) : Bool := cond (Nat.ble 2147483648 n) true (bad n)

def allT (n : Nat) (f : Nat → Bool) : Bool := Nat.rec true (fun k ih => cond (f k) ih false) n
theorem allT_spec (f : Nat → Bool) : ∀ n, allT n f = true → ∀ k, k < n → f k = true := by
  intro n
  induction n with
  | zero => intro _ k hk; omega
  | succ n ih =>
    intro h k hk
    have e : allT (n + 1) f = cond (f n) (allT n f) false := rfl
    rw [e] at h
    cases hf : f n with
    | false => rw [hf] at h; cases h
    | true =>
      rw [hf] at h
      by_cases hkn : k = n
      · rw [hkn]; exact hf
      · exact ih h k (by omega)

/-- In blocks of a thousand. -/
def allM (m : Nat) (f : Nat → Bool) : Bool := allT m fun hi => allT 1000 fun lo => f (hi * 1000 + lo)
theorem allM_spec (f : Nat → Bool) (m : Nat) (h : allM m f = true) (k : Nat) (hk : k < m * 1000) : f k = true := by
  have h1 := allT_spec _ m h (k / 1000) (by omega)
  have h2 := allT_spec _ 1000 h1 (k % 1000) (by omega)
  have : k / 1000 * 1000 + k % 1000 = k := by omega
  rw [this] at h2; exact h2

/-! What is stripped of a gcd: small factors. -/
def strip1 (f : Nat) (fuel : Nat) : Nat → Nat := Nat.rec (fun g => g) (fun _ ih g => cond (Nat.beq (g % f) 0) (force (g / f) ih) g) fuel
theorem strip1_dvd {f q : Nat} (hq : Pr q) (hf : 0 < f) (hfq : f < q) : ∀ fuel g, q ∣ g → q ∣ strip1 f fuel g := by
  intro fuel
  induction fuel with
  | zero => intro g h; exact h
  | succ n ih =>
    intro g h
    have e : strip1 f (n + 1) g = cond (Nat.beq (g % f) 0) (strip1 f n (g / f)) g := by
      show cond _ (force _ _) _ = _
      rw [force_eq]; rfl
    rw [e]
    cases hb : Nat.beq (g % f) 0 with
    | false => exact h
    | true =>
      have h0 : g % f = 0 := Nat.eq_of_beq_eq_true hb
      apply ih
      have hg : g = f * (g / f) := by have := Nat.div_add_mod g f; omega
      rw [hg] at h
      exact hq.euclid h (fun hc => by have := Nat.le_of_dvd hf hc; omega)
theorem strip1_pos {f : Nat} : ∀ fuel g, 0 < g → 0 < strip1 f fuel g := by
  intro fuel
  induction fuel with
  | zero => intro g h; exact h
  | succ n ih =>
    intro g h
    have e : strip1 f (n + 1) g = cond (Nat.beq (g % f) 0) (strip1 f n (g / f)) g := by
      show cond _ (force _ _) _ = _
      rw [force_eq]; rfl
    rw [e]
    cases hb : Nat.beq (g % f) 0 with
    | false => exact h
    | true =>
      have h0 : g % f = 0 := Nat.eq_of_beq_eq_true hb
      apply ih
      have hg : g = f * (g / f) := by have := Nat.div_add_mod g f; omega
      rcases Nat.eq_zero_or_pos (g / f) with hz | hz
      · rw [hz] at hg; omega
      · exact hz

def strip : List Nat → Nat → Nat
  | [], g => g
  | f :: l, g => force (strip1 f 8 g) (strip l)
theorem strip_dvd {q : Nat} (hq : Pr q) : ∀ (l : List Nat) (g : Nat), (∀ f, f ∈ l → 0 < f ∧ f < q) → q ∣ g → q ∣ strip l g := by
  intro l
  induction l with
  | nil => intro g _ h; exact h
  | cons f l ih =>
    intro g hl h
    have e : strip (f :: l) g = strip l (strip1 f 8 g) := by show force _ _ = _; rw [force_eq]
    rw [e]
    have := hl f (by simp)
    exact ih _ (fun f hf => hl f (by simp [hf])) (strip1_dvd hq this.1 this.2 8 g h)
theorem strip_pos : ∀ (l : List Nat) (g : Nat), 0 < g → 0 < strip l g := by
  intro l
  induction l with
  | nil => intro g h; exact h
  | cons f l ih =>
    intro g h
    have e : strip (f :: l) g = strip l (strip1 f 8 g) := by show force _ _ = _; rw [force_eq]
    rw [e]
    exact ih _ (strip1_pos 8 g h)

/-! (A): a prime above 32768. -/
def chkA (D : RD) (l : List Nat) (k : Nat) : Bool :=
  cond (Nat.ble k 1) true (force (oddp (k - 1)) fun o => force (gG D o) fun G => cond (Nat.ble G 32768) true
    (force (strip l G) fun R => allT (R / 32768) fun m => cond (Nat.beq (R % (m + 1)) 0) (force (R / (m + 1) * k) badOr) true))
def allA (D : RD) (l : List Nat) : Bool := allM 66 fun k => cond (Nat.beq (k % D.r) 0) (cond (Nat.beq (k % 2) 1) (chkA D l k) true) true

/-! (B): a prime from 300 to 32768. -/
def goodX (x q : Nat) : Bool := cond (Nat.beq (2 ^ x % q) 1) (cond (Nat.beq (7 ^ x % q) 1) (Nat.beq (61 ^ x % q) 1) false) false
def findc (q : Nat) (c : Nat) : Nat := Nat.rec 1 (fun c ih => cond (Nat.beq ((q - 1) % (c + 1)) 0) (cond (goodX ((q - 1) / (c + 1)) q) (c + 1) ih) ih) c
def minimal (L q : Nat) : Bool :=
  cond (goodX L q) (allT 181 fun d => cond (Nat.beq (L % (d + 1)) 0)
    (cond (cond (Nat.beq d 0) true (cond (goodX (L / (d + 1)) q) false true)) (cond (Nat.beq (d + 1) L) true (cond (goodX (d + 1) q) false true)) false) true) false
def chkB (D : RD) (q : Nat) : Bool :=
  cond (filt D (oddp (q - 1)) q) (force ((q - 1) / findc q 30) fun L => cond (cond (Nat.ble L 32768) (minimal L q) false) (allT (2147483647 / q / L + 1) fun j =>
    force (1 + L * j) fun k => cond (Nat.beq (k % D.r) 0) (force (q * k) badOr) true) false) true
def allB (D : RD) : Bool := allM 33 fun q => cond (Nat.ble q 300) true (cond (Nat.ble 32769 q) true (cond (Nat.beq (q % 2) 1) (chkB D q) true))

/-! (C): all primes up to 300. -/
def subs : List Nat → List Nat
  | [] => [1]
  | q :: l => subs l ++ (subs l).map (q * ·)
def chkC (D : RD) (small : List Nat) : Bool :=
  (allT 301 fun q => cond (Nat.beq (q % 2) 1) (cond (Nat.ble q 2) true (cond (filt D (oddp (q - 1)) q) (small.any (Nat.beq q)) true)) true) &&
  (small.all fun q => Nat.beq (2 ^ (q * (q - 1)) % (q * q)) 1 && !(Nat.beq (2 ^ (q - 1) % (q * q)) 1)) &&
  ((subs small).all fun n => cond (Nat.beq (n % D.r) 0) (cond (Nat.beq n D.r) true (badOr n)) true)

def rd3 : RD := ⟨3, 2, true, 7, false, 61, false⟩
def strip3 : List Nat := [3, 19, 83, 131, 283, 563, 619, 691, 859, 971, 1123, 1259, 1459, 1483, 1571, 1627, 1699, 1811, 1907, 1979, 2099, 2131, 2243, 2467, 2659, 2803, 2819, 3163, 3307, 3491, 3499, 3547, 3659, 3779, 3923, 4051, 4091, 4283, 4651, 4987, 5003, 5011, 5059, 5099, 5171, 5227, 5323, 5563, 5659, 5843, 5851, 5939, 6299, 6691, 6907, 7019, 7027, 7243, 7307, 7451, 7507, 7523, 7691, 7699, 8011, 8147, 8179, 8291, 8419, 8539, 8707, 8867, 8963, 9043, 9467, 9491, 9883, 9931, 10099, 10139, 10267, 10331, 10531, 10723, 10867, 10883, 10939, 10979, 11443, 11483, 11731, 12227, 12323, 12347, 12379, 12491, 12547, 12907, 13163, 13411, 13523, 13691, 13859, 13907, 14411, 14563, 14747, 14843, 14923, 15083, 15259, 15307, 15643, 15739, 15907, 16091, 16187, 16267, 16547, 16763, 16883, 16931, 17099, 17107, 17419, 17443, 17491, 17827, 17939, 18059, 18427, 18539, 18731, 18787, 19211, 19267, 19379, 19403, 19507, 19603, 19739, 19963, 20011, 20347, 20627, 21059, 21187, 21227, 21467, 22067, 22091, 22123, 22147, 22307, 22531, 22571, 22643, 22651, 22739, 22811, 22963, 23099, 23131, 23603, 24043, 24083, 24107, 24251, 24419, 24547, 24659, 25147, 25171, 25667, 25819, 26099, 26227, 26339, 26347, 26459, 26731, 27011, 27179, 27611, 27691, 27739, 27803, 27947, 28019, 28307, 28411, 28643, 28867, 28979, 29027, 29363, 29483, 29851, 30211, 30259, 30427, 30491, 30539, 30763, 30931, 31219, 31307, 31379, 31643, 31723, 31883, 31891, 32003, 32059, 32203, 32371, 32443]
def small3 : List Nat := [3, 19, 83, 131, 283]
theorem a3 : allA rd3 strip3 = true := by decide +kernel
theorem b3 : allB rd3 = true := by decide +kernel
theorem c3 : chkC rd3 small3 = true := by decide +kernel
def rd5 : RD := ⟨5, 4, true, 49, true, 61, false⟩
def strip5 : List Nat := [5, 13, 229, 269, 733, 797, 853, 1181, 1277, 2309, 2693, 2749, 3461, 3533, 3709, 3877, 4133, 4373, 4597, 4861, 5381, 5669, 5869, 6173, 6709, 7573, 7621, 7789, 8221, 8501, 8581, 9029, 9677, 9901, 10253, 10853, 11093, 11549, 11941, 12277, 12829, 12941, 13093, 13789, 13933, 14437, 14461, 14717, 15053, 15277, 15413, 15629, 15973, 16229, 16253, 16421, 16901, 17093, 17909, 17981, 18133, 18413, 18541, 18749, 18773, 19141, 19157, 19661, 20149, 20261, 20389, 20509, 21773, 22109, 22189, 22853, 22861, 23917, 23957, 24197, 24373, 24709, 24889, 25189, 25693, 26501, 26813, 26981, 27109, 27653, 27733, 28069, 28181, 28229, 28573, 28661, 28789, 28793, 29021, 29077, 29581, 29917, 30133, 30253, 30509, 30637, 30757, 31013, 31237, 31541, 32213]
def small5 : List Nat := [5, 13, 229, 269]
theorem a5 : allA rd5 strip5 = true := by decide +kernel
theorem b5 : allB rd5 = true := by decide +kernel
theorem c5 : chkC rd5 small5 = true := by decide +kernel
def rd11 : RD := ⟨11, 2, true, 7, true, 61, true⟩
def strip11 : List Nat := [11, 43, 67, 211, 331, 499, 547, 739, 883, 907, 947, 1019, 1187, 1283, 1499, 1523, 1579, 1619, 1787, 2003, 2011, 2179, 2251, 2339, 2347, 2531, 2843, 2963, 3019, 3067, 3203, 3259, 3347, 3467, 3571, 3691, 3739, 3803, 3851, 4019, 4211, 4363, 4547, 4603, 4643, 4691, 5107, 5147, 5419, 5483, 5867, 5923, 6211, 6323, 6379, 6619, 6659, 6763, 6841, 6883, 6899, 7043, 7219, 7331, 7459, 7547, 7723, 7907, 7963, 8059, 8243, 8387, 8563, 8731, 8747, 9011, 9059, 9283, 9587, 9739, 9811, 9851, 10067, 10091, 10259, 10459, 10651, 10987, 11131, 11491, 11579, 11827, 11867, 11923, 11939, 12107, 12163, 12251, 13003, 13043, 13147, 13267, 13451, 13763, 13931, 14051, 14683, 14779, 14851, 14891, 14939, 14947, 15107, 15187, 15227, 15443, 15451, 15667, 15731, 15971, 16067, 16139, 16843, 16979, 17011, 17033, 17123, 17291, 17467, 17483, 17539, 17579, 17627, 17683, 17707, 17971, 17987, 18211, 18307, 18379, 18523, 18587, 18859, 18979, 19259, 19387, 19427, 19483, 19531, 19819, 19979, 20147, 20323, 20507, 20563, 20707, 20771, 20899, 21211, 21379, 21611, 21683, 21739, 22003, 22051, 22171, 22283, 23003, 23027, 23251, 23291, 23339, 23459, 23563, 24179, 24371, 24851, 24859, 25243, 25307, 25411, 25603, 25643, 25771, 26251, 26387, 26891, 27091, 27259, 27427, 27539, 27763, 27827, 27883, 28123, 28211, 28219, 28403, 28571, 28603, 28627, 28723, 28771, 29059, 29243, 29339, 29611, 29803, 30307, 30347, 30643, 31019, 31147, 31627, 31859, 32027, 32251, 32299, 32323, 32363, 32531, 32603]
def small11 : List Nat := [11, 43, 67, 211]
theorem a11 : allA rd11 strip11 = true := by decide +kernel
theorem b11 : allB rd11 = true := by decide +kernel
theorem c11 : chkC rd11 small11 = true := by decide +kernel
def rd13 : RD := ⟨13, 4, true, 49, true, 61, false⟩
def strip13 : List Nat := [5, 13, 229, 269, 733, 797, 853, 1181, 1277, 2309, 2693, 2749, 3461, 3533, 3709, 3877, 4133, 4373, 4597, 4861, 5381, 5669, 5869, 6173, 6709, 7573, 7621, 7789, 8221, 8501, 8581, 9029, 9677, 9901, 10253, 10853, 11093, 11549, 11941, 12277, 12829, 12941, 13093, 13789, 13933, 14437, 14461, 14717, 15053, 15277, 15413, 15629, 15973, 16229, 16253, 16421, 16901, 17093, 17909, 17981, 18133, 18413, 18541, 18749, 18773, 19141, 19157, 19661, 20149, 20261, 20389, 20509, 21773, 22109, 22189, 22853, 22861, 23917, 23957, 24197, 24373, 24709, 24889, 25189, 25693, 26501, 26813, 26981, 27109, 27653, 27733, 28069, 28181, 28229, 28573, 28661, 28789, 28793, 29021, 29077, 29581, 29917, 30133, 30253, 30509, 30637, 30757, 31013, 31237, 31541, 32213]
def small13 : List Nat := [5, 13, 229, 269]
theorem a13 : allA rd13 strip13 = true := by decide +kernel
theorem b13 : allB rd13 = true := by decide +kernel
theorem c13 : chkC rd13 small13 = true := by decide +kernel
end Go.Proofs.Ytjfjbkocopaehaa
