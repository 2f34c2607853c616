/- The sponge: the words of a string (package sponge's iterator). -/
import Derived.Test.YtjfjbkocopaehaaDoorSpgF
import Derived.Test.YtjfjbkocopaehaaDoorDefX
namespace Go.Proofs.YtjfjbkocopaehaaDoor
open Go.RowKit Go.Shelf
attribute [local go_sem] Oper.semAt_some
set_option linter.unusedVariables false

/-- The words of a string. -/
def words (s : ByteArray) (n : Nat) : List Int := (List.range n).map (fun j => wordTo s (8 * j) 8)
theorem words_length (s : ByteArray) (n : Nat) : (words s n).length = n := by unfold words; simp
theorem words_succ (s : ByteArray) (n : Nat) : words s (n + 1) = words s n ++ [wordTo s (8 * n) 8] := by unfold words; rw [List.range_succ, List.map_append]; rfl
def encI (x : Int) : Array Value := #[.int .u64 x]
def keepC (Bs : Nat) (W W' : World) : Prop := W'.cell? ⟨Bs, 0, none⟩ = W.cell? ⟨Bs, 0, none⟩
theorem pad_in {s : ByteArray} {i : Nat} (h : i < s.size) : padB s i = ((s[i]'h).toNat : Int) := by unfold padB; rw [dif_pos h]
theorem pad_at {s : ByteArray} {i : Nat} (h : i = s.size) : padB s i = 128 := by unfold padB; rw [dif_neg (by omega), if_pos h]
theorem pad_out {s : ByteArray} {i : Nat} (h : s.size < i) : padB s i = 0 := by unfold padB; rw [dif_neg (by omega), if_neg (by omega)]

set_option maxHeartbeats 2000000 in
set_option maxRecDepth 100000 in
theorem blocks_in (F : Fence) (n : Nat) (hF : F.fn 85) (hro : F.round = none) (l Bs : Nat) (s : ByteArray) (K : Nat) (J Jx : List Int → World → Prop)
    (hY : ∀ pre (x : Int) W, J pre W → pre.length < K → YieldAt F (n - 1) Tryd.prog l (encI x) W fun e W' =>
      (e = .returned (.bool true) ∧ J (pre ++ [x]) W' ∧ keepC Bs W W') ∨ (e = .returned (.bool false) ∧ Jx (pre ++ [x]) W'))
    (W : World) (hs : W.cell? ⟨Bs, 0, none⟩ = some (.string s)) (hsz : s.size ≤ 1152921504606846976) (hK : K = s.size / 8 + 1) (hn : 1 ≤ n) (h0 : J [] W) :
    CallsIn F n Tryd.prog 85 #[.func (.yield l) #[] #[], .pointer (some ⟨Bs, 0, none⟩)] W fun e W' => (∃ v, e = .returned v) ∧
      ((∃ ys, ys = words s K ∧ J ys W') ∨ (∃ pre, pre <+: words s K ∧ Jx pre W')) := by
  have HK := Lib.hid hK
  clear hK
  refine callsIn_of_wp Tryd.func85 rfl hF ?_ hro
  simp only [Tryd.ntmps85, List.size_toArray, List.length_cons, List.length_nil, Nat.reduceAdd, Nat.reduceSub, Array.replicate_succ, Array.replicate_zero, List.push_toArray, List.append_toArray, List.nil_append, List.cons_append]
  gi_wp2
  gi_loopw [3, 4, 5, 12] (fun vi _ _ _ wr => ∃ j : Nat, vi = .int .i64 (8 * (j : Int)) ∧ j ≤ K ∧ Hid (J (words s j) wr) ∧ wr.cell? ⟨Bs, 0, none⟩ = some (.string s)) (fun vi _ _ _ _ => s.size + 8 - (intOf vi).toNat)
  case atStart => exact ⟨0, rfl, by omega, h0, hs⟩
  case round =>
    obtain ⟨j, rfl, hj, hJ, hsr⟩ := hrel
    clear hs h0
    by_cases hjk : j < K
    · have hle : 8 * j ≤ s.size := by have := HK.out; omega
      have d1 : decide (8 * (j : Int) ≤ (s.size : Int)) = true := decide_eq_true (by omega)
      gi_wp2
      gi_loopw [4, 5, 12] (fun v4 _ v12 w2 => ∃ k : Nat, v12 = .int .i64 k ∧ k ≤ 8 ∧ v4 = .int .u64 (wordTo s (8 * j) k) ∧ Hid (w2 = wr)) (fun _ _ v12 _ => 8 - (intOf v12).toNat)
      case atStart => exact ⟨0, rfl, by omega, rfl, rfl⟩
      case round =>
        obtain ⟨k, rfl, hk, rfl, hw⟩ := hrel
        have hw2 := hw.out
        subst hw2
        clear hw d1
        by_cases hk8 : k < 8
        · have d2 : decide ((k : Int) < 8) = true := decide_eq_true (by omega)
          have hWS : Hid (wordTo s (8 * j) (k + 1) = orr (shl (wordTo s (8 * j) k) 8) (padB s (8 * j + k))) := rfl
          obtain ⟨x, hx⟩ : ∃ x, wordTo s (8 * j) k = x := ⟨_, rfl⟩
          have HX := Lib.hid hx
          rw [hx] at hWS ⊢
          obtain ⟨i, hi⟩ : ∃ i, 8 * j + k = i := ⟨_, rfl⟩
          rw [hi] at hWS
          have hik : 8 * (j : Int) + (k : Int) = (i : Int) := by omega
          have hsh : Hid (shl x 8 = IntKind.u64.wrap (x * 256)) := rfl
          have i0 : (0 : Int) ≤ (i : Int) := by omega
          have HI := Lib.hid hi
          clear hx hi
          by_cases h1 : i < s.size
          · have HP : Hid (padB s i = IntKind.u64.wrap ((s[i]'h1).toNat : Int)) := by
              show _ = _
              have hb := UInt8.toNat_lt (s[i]'h1)
              rw [pad_in h1, wrap_of ⟨by omega, by omega⟩]
            have i1 : (i : Int) < (s.size : Int) := by omega
            have d3 : decide ((i : Int) < (s.size : Int)) = true := decide_eq_true i1
            gi_wp2
            go_roundw
            case rel => exact ⟨k + 1, by go_num, by omega, by rw [hWS.out, HP.out, hsh.out]; rfl, by first | exact Lib.hid rfl | exact Lib.hid trivial⟩
            case measure => simp [intOf]; omega
          · have d3 : decide ((i : Int) < (s.size : Int)) = false := decide_eq_false (by omega)
            by_cases h2 : i = s.size
            · have HP : Hid (padB s i = 128) := pad_at h2
              have d4 : ((i : Int) == (s.size : Int)) = true := by rw [h2]; simp
              gi_wp2
              go_roundw
              case rel => exact ⟨k + 1, by go_num, by omega, by rw [hWS.out, HP.out, hsh.out]; rfl, by first | exact Lib.hid rfl | exact Lib.hid trivial⟩
              case measure => simp [intOf]; omega
            · have HP : Hid (padB s i = 0) := pad_out (by omega)
              have d4 : ((i : Int) == (s.size : Int)) = false := by simp; omega
              gi_wp2
              go_roundw
              case rel => exact ⟨k + 1, by go_num, by omega, by rw [hWS.out, HP.out, hsh.out, or_zero64 (wrap_w64 _)], by first | exact Lib.hid rfl | exact Lib.hid trivial⟩
              case measure => simp [intOf]; omega
        · obtain rfl : k = 8 := by omega
          have HWJ : Hid (words s (j + 1) = words s j ++ [wordTo s (8 * j) 8]) := words_succ s j
          have HPX : Hid (words s (j + 1) <+: words s K) := by
            show _ <+: _
            unfold words
            obtain ⟨d, rfl⟩ : ∃ d, K = j + 1 + d := ⟨K - (j + 1), by omega⟩
            rw [List.range_add (n := j + 1) (m := d), List.map_append]
            exact List.prefix_append _ _
          obtain ⟨fn, tmps, assign, body, hy, hR⟩ := hY (words s j) (wordTo s (8 * j) 8) wr hJ.out (by rw [words_length]; exact hjk)
          simp only [encI] at hy
          obtain ⟨x, hx⟩ : ∃ x, wordTo s (8 * j) 8 = x := ⟨_, rfl⟩
          rw [hx] at hy hR HWJ ⊢
          clear hx
          gi_wp2
          refine hR.mono ?_
          clear hy hR
          rintro e W' (⟨rfl, hJ', hk'⟩ | ⟨rfl, hJx'⟩)
          · have hs' : W'.cell? ⟨Bs, 0, none⟩ = some (.string s) := hk'.trans hsr
            have HJ' := Lib.hid hJ'
            clear hJ' hk' hsr hJ
            gi_wp2
            go_roundw
            case rel => exact ⟨j + 1, by congr 1, by omega, by rw [HWJ.out]; exact HJ', hs'⟩
            case measure => simp only [intOf]; omega
          · have HJ' := Lib.hid hJx'
            clear hJx' hsr hJ
            gi_wp2
            refine bodyPost_ret (results_none rfl _ _ _) rfl ?_
            exact ⟨⟨_, rfl⟩, .inr ⟨words s (j + 1), HPX.out, by rw [HWJ.out]; exact HJ'.out⟩⟩
    · obtain rfl : j = K := by omega
      have d1 : decide (8 * (j : Int) ≤ (s.size : Int)) = false := decide_eq_false (by have := HK.out; omega)
      gi_wp2
      go_end0
      exact ⟨⟨_, rfl⟩, .inl ⟨words s j, rfl, hJ.out⟩⟩
end Go.Proofs.YtjfjbkocopaehaaDoor
