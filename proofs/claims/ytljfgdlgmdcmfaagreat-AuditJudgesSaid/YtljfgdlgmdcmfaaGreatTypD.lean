/- Circuits: words, names. -/
import Derived.Test.YtljfgdlgmdcmfaaGreatTypC
namespace Go.Proofs.YtljfgdlgmdcmfaaGreat
open Go.RowKit Wv
set_option linter.unusedVariables false
set_option linter.unusedSimpArgs false

/-- A byte of a string. -/
def byt (b : ByteArray) (i : Nat) : Int := ((b[i]?).map fun c => (c.toNat : Int)).getD 0
theorem byt_at {b : ByteArray} {i : Nat} (h : i < b.size) : ∃ c : UInt8, b[i]? = some c ∧ (c.toNat : Int) = byt b i := by
  refine ⟨b[i], getElem?_pos b i h, ?_⟩
  unfold byt
  rw [getElem?_pos b i h]; rfl
theorem byt_ge (b : ByteArray) (i : Nat) : 0 ≤ byt b i ∧ byt b i < 256 := by
  unfold byt
  cases b[i]? with
  | none => exact ⟨Int.le_refl 0, by decide⟩
  | some c =>
    have h : c.toNat < 256 := c.toNat_lt
    show 0 ≤ ((c.toNat : Nat) : Int) ∧ ((c.toNat : Nat) : Int) < 256
    exact ⟨Int.natCast_nonneg _, Int.ofNat_lt.2 h⟩
theorem bytA_tab (b : ByteArray) : bytA b = tab b.size fun i => .v (.int .u8 (byt b i)) := by
  apply List.ext_getElem
  · unfold bytA tab
    rw [List.length_map, List.length_map, List.length_range]
    rfl
  · intro i h1 h2
    have hi : i < b.size := by simpa [bytA] using h1
    obtain ⟨c, hc, hb⟩ := byt_at hi
    have hc' : b.data[i]'hi = c := by
      rw [getElem?_pos b i hi] at hc
      exact Option.some.inj hc
    simp [bytA, tab, ← hb, hc']

def w4 (i : Nat) : ByteArray := match i with | 0 => ⟨#[99, 105, 114, 99, 117, 105, 116]⟩ | 1 => ⟨#[105, 110, 112, 117, 116]⟩ | 2 => ⟨#[108, 101, 116]⟩ | _ => ⟨#[111, 117, 116, 112, 117, 116]⟩
def w8 (i : Nat) : ByteArray := match i with | 0 => ⟨#[114, 111, 116]⟩ | 1 => ⟨#[115, 119, 97, 112]⟩ | 2 => ⟨#[109, 97, 115, 107]⟩ | 3 => ⟨#[116, 97, 98, 108, 101]⟩ | 4 => ⟨#[101, 113]⟩ | 5 => ⟨#[108, 101, 115, 115]⟩ | 6 => ⟨#[112, 111, 119]⟩ | _ => ⟨#[115, 117, 109]⟩
def w16 (i : Nat) : ByteArray := if i < 8 then ⟨#[]⟩ else w8 (i - 8)
def w12 (i : Nat) : ByteArray := if i < 4 then w4 i else w8 (i - 4)
def wordB (s : ByteArray) (i : Nat) : Bool := letB (byt s i) || (digB (byt s i) || decide (byt s i = 95))
/-- Is that a name? -/
def nameB (s : ByteArray) : Bool := !(decide (s = ⟨#[]⟩) || (decide (16 < s.size) || (!letB (byt s 0) || (anyN 4 (fun i => decide (s = w4 i)) || anyN 16 (fun i => decide (s = w16 i)))))) && !anyN s.size fun i => !wordB s i
set_option maxRecDepth 10000 in
theorem name_words (s : ByteArray) (h : s ≠ ⟨#[]⟩) : (anyN 4 (fun i => decide (s = w4 i)) || anyN 16 (fun i => decide (s = w16 i))) = anyN 12 (fun i => decide (s = w12 i)) := by
  simp [anyN, List.range, List.range.loop, w16, w12, h, Bool.or_assoc]

theorem und_str : (Tryz.prog.underlying 9).isSome = true := by kernel_rfl
set_option maxHeartbeats 400000 in
set_option maxRecDepth 100000 in
theorem calls_tc : TC Tryz.prog 151 [] (.g [.v (.string ⟨#[]⟩), .v (.string ⟨#[]⟩), .v (.string ⟨#[]⟩), .v (.string ⟨#[]⟩), .v (.string ⟨#[]⟩), .v (.string ⟨#[]⟩), .v (.string ⟨#[]⟩), .v (.string ⟨#[]⟩), .v (.string ⟨#[114, 111, 116]⟩), .v (.string ⟨#[115, 119, 97, 112]⟩), .v (.string ⟨#[109, 97, 115, 107]⟩), .v (.string ⟨#[116, 97, 98, 108, 101]⟩), .v (.string ⟨#[101, 113]⟩), .v (.string ⟨#[108, 101, 115, 115]⟩), .v (.string ⟨#[112, 111, 119]⟩), .v (.string ⟨#[115, 117, 109]⟩)]) := by
  refine Wv.TC.by 2 [0] [] [.cell 0 191] Tryz.func151 rfl rfl rfl ?clo ?_
  case clo => simp only [Wv.BC]
  simp (disch := first | assumption | exact Wv.D | fail) only [Wv.B, simprocAttr]
theorem calls_strs : strsA 16 w16 = .t 16 1 [.v (.string ⟨#[]⟩), .v (.string ⟨#[]⟩), .v (.string ⟨#[]⟩), .v (.string ⟨#[]⟩), .v (.string ⟨#[]⟩), .v (.string ⟨#[]⟩), .v (.string ⟨#[]⟩), .v (.string ⟨#[]⟩), .v (.string ⟨#[114, 111, 116]⟩), .v (.string ⟨#[115, 119, 97, 112]⟩), .v (.string ⟨#[109, 97, 115, 107]⟩), .v (.string ⟨#[116, 97, 98, 108, 101]⟩), .v (.string ⟨#[101, 113]⟩), .v (.string ⟨#[108, 101, 115, 115]⟩), .v (.string ⟨#[112, 111, 119]⟩), .v (.string ⟨#[115, 117, 109]⟩)] := rfl
theorem four_strs : strsA 4 w4 = .t 4 1 [.v (.string ⟨#[99, 105, 114, 99, 117, 105, 116]⟩), .v (.string ⟨#[105, 110, 112, 117, 116]⟩), .v (.string ⟨#[108, 101, 116]⟩), .v (.string ⟨#[111, 117, 116, 112, 117, 116]⟩)] := rfl
set_option maxHeartbeats 400000 in
set_option maxRecDepth 100000 in
theorem pname_tc (s : ByteArray) (hs : s.size ≤ 140737488351232) : TC Tryz.prog 103 [.v (.string s)] (.v (.bool (nameB s))) := by
  refine Wv.TC.by 50 [0, 3, 29, 33, 32, 34, 31, 5, 48, 2] [] [.tmp 2] Tryz.func103 rfl rfl rfl ?clo ?_
  case clo => simp only [Wv.BC]
  simp (disch := first | assumption | exact Wv.D | fail) only [Wv.B, simprocAttr]
  refine call_TC calls_tc rfl (by simp only [Wv.BC]) (by simp only [Wv.BC]) ?_
  have hN : nameB s = (!(decide (s = ⟨#[]⟩) || (decide (16 < s.size) || (!letB (byt s 0) || (anyN 4 (fun i => decide (s = w4 i)) || anyN 16 (fun i => decide (s = w16 i)))))) && !anyN s.size fun i => !wordB s i) := rfl
  cases h1 : decide (s = ⟨#[]⟩) with
  | true =>
    rw [h1, Bool.true_or, Bool.not_true, Bool.false_and] at hN
    simp (disch := first | assumption | exact Wv.D | fail) only [Wv.B, simprocAttr, h1, hN]
  | false =>
    cases h2 : decide (16 < s.size) with
    | true =>
      have h2' : (16 : Int) < s.size := by have := of_decide_eq_true h2; omega
      rw [h1, h2, Bool.false_or, Bool.true_or, Bool.not_true, Bool.false_and] at hN
      simp (disch := first | assumption | exact Wv.D | fail) only [Wv.B, simprocAttr, h1, h2, decide_eq_true h2', hN]
    | false =>
      have h2' : ¬ (16 : Int) < s.size := by have := of_decide_eq_false h2; omega
      have hsz : s.size ≠ 0 := fun e => of_decide_eq_false h1 (by cases s with | mk d => simp [ByteArray.size] at e; rw [e])
      obtain ⟨c, hc, hb⟩ := byt_at (b := s) (i := 0) (by omega)
      have hg := byt_ge s 0
      simp (disch := first | assumption | exact Wv.D | fail) only [Wv.B, simprocAttr, h1, h2, decide_eq_false h2', hc, hb]
      refine call_TC (pletter_tc (byt s 0) hg.1 hg.2) rfl (by simp only [Wv.BC]) (by simp only [Wv.BC]) ?_
      cases h3 : letB (byt s 0) with
      | false =>
        rw [h1, h2, h3, Bool.false_or, Bool.false_or, Bool.not_false, Bool.true_or, Bool.not_true, Bool.false_and] at hN
        simp (disch := first | assumption | exact Wv.D | fail) only [Wv.B, simprocAttr, hN]
      | true =>
        simp (disch := first | assumption | exact Wv.D | fail) only [Wv.B, simprocAttr]
        refine call_TC (scontains_tc 4 w4 s (by omega)) rfl (by simp only [Wv.BC, strs_clo]) (by simp only [Wv.BC]) ?_
        cases h4 : anyN 4 (fun i => decide (s = w4 i)) with
        | true =>
          rw [h1, h2, h3, h4, Bool.false_or, Bool.false_or, Bool.not_true, Bool.false_or, Bool.true_or, Bool.not_true, Bool.false_and] at hN
          simp (disch := first | assumption | exact Wv.D | fail) only [Wv.B, simprocAttr, hN]
        | false =>
          simp (disch := first | assumption | exact Wv.D | fail) only [Wv.B, simprocAttr]
          refine call_TC (scontains_tc 16 w16 s (by omega)) rfl (by simp only [Wv.BC, strs_clo]) (by simp only [Wv.BC]) ?_
          cases h5 : anyN 16 (fun i => decide (s = w16 i)) with
          | true =>
            rw [h1, h2, h3, h4, h5, Bool.false_or, Bool.false_or, Bool.not_true, Bool.false_or, Bool.false_or, Bool.not_true, Bool.false_and] at hN
            simp (disch := first | assumption | exact Wv.D | fail) only [Wv.B, simprocAttr, hN]
          | false =>
            rw [h1, h2, h3, h4, h5, Bool.false_or, Bool.false_or, Bool.not_true, Bool.false_or, Bool.false_or, Bool.not_false, Bool.true_and] at hN
            clear h1 h2 h3 h4 h5 hc hb hg
            simp (disch := first | assumption | exact Wv.D | fail) only [Wv.B, simprocAttr, Wv.cvX_u8 und_str hs, bytA_tab]
            refine wfor (σ := Nat) (fun i => [(0, .v (.string s)), (31, .t s.size 1 (tab s.size fun i => .v (.int .u8 (byt s i)))), (32, .v (.int .i64 s.size)), (33, .v (.int .i64 i))]) (fun i => [none, some (.arr 9 1 [.v (.string ⟨#[99, 105, 114, 99, 117, 105, 116]⟩), .v (.string ⟨#[105, 110, 112, 117, 116]⟩), .v (.string ⟨#[108, 101, 116]⟩), .v (.string ⟨#[111, 117, 116, 112, 117, 116]⟩)] 4)])
              (fun i => i ≤ s.size ∧ ∀ j, j < i → wordB s j = true) (fun i => s.size - i) 0 ⟨Nat.zero_le _, fun j hj => by omega⟩ Wv.V Wv.V ?_
            rintro i ⟨hi, hj⟩
            by_cases hlt : i < s.size
            · have e1 : (i : Int) < s.size := by omega
              have hg := byt_ge s i
              simp (disch := first | assumption | exact Wv.D | fail) only [Wv.B, simprocAttr]
              refine call_TC (pletter_tc (byt s i) hg.1 hg.2) rfl (by simp only [Wv.BC]) (by simp only [Wv.BC]) ?_
              cases h3 : letB (byt s i) with
              | true =>
                simp (disch := first | assumption | exact Wv.D | fail) only [Wv.B, simprocAttr]
                refine k_next (i + 1) ⟨by omega, fun j q => ?_⟩ (by omega) Wv.V Wv.V2
                by_cases e : j = i
                · subst e; unfold wordB; rw [h3]; rfl
                · exact hj j (by omega)
              | false =>
                simp (disch := first | assumption | exact Wv.D | fail) only [Wv.B, simprocAttr]
                refine call_TC (pdigit_tc (byt s i)) rfl (by simp only [Wv.BC]) (by simp only [Wv.BC]) ?_
                cases h4 : digB (byt s i) with
                | true =>
                  simp (disch := first | assumption | exact Wv.D | fail) only [Wv.B, simprocAttr]
                  refine k_next (i + 1) ⟨by omega, fun j q => ?_⟩ (by omega) Wv.V Wv.V2
                  by_cases e : j = i
                  · subst e; unfold wordB; rw [h3, h4]; rfl
                  · exact hj j (by omega)
                | false =>
                  cases h5 : decide (byt s i = 95) with
                  | true =>
                    simp (disch := first | assumption | exact Wv.D | fail) only [Wv.B, simprocAttr, h5]
                    refine k_next (i + 1) ⟨by omega, fun j q => ?_⟩ (by omega) Wv.V Wv.V2
                    by_cases e : j = i
                    · subst e; unfold wordB; rw [h3, h4, h5]; rfl
                    · exact hj j (by omega)
                  | false =>
                    have : nameB s = false := by
                      rw [hN]
                      have : anyN s.size (fun i => !wordB s i) = true := by
                        unfold anyN
                        refine List.any_eq_true.2 ⟨i, List.mem_range.2 hlt, ?_⟩
                        unfold wordB; rw [h3, h4, h5]; rfl
                      rw [this]; rfl
                    simp (disch := first | assumption | exact Wv.D | fail) only [Wv.B, simprocAttr, h5, this]
            · have hin : i = s.size := by omega
              subst hin
              have : nameB s = true := by
                rw [hN]
                have : anyN s.size (fun i => !wordB s i) = false := by
                  unfold anyN
                  refine List.any_eq_false.2 fun i hi => ?_
                  rw [hj i (List.mem_range.1 hi)]; decide
                rw [this]; rfl
              simp (disch := first | assumption | exact Wv.D | fail) only [Wv.B, simprocAttr, this]
end Go.Proofs.YtljfgdlgmdcmfaaGreat
