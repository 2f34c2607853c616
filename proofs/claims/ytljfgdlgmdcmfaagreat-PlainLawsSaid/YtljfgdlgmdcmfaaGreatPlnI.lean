/- Plain values: the circuits of the law; what is shown. -/
import Derived.Test.YtljfgdlgmdcmfaaGreatPlnH
namespace Go.Proofs.YtljfgdlgmdcmfaaGreat
open Go.RowKit Wv
set_option linter.unusedVariables false
set_option linter.unusedSimpArgs false

def nmA (l : List ByteArray) (i : Nat) : ByteArray := l.getD i ⟨#[]⟩
def exL (l : List Ex) (i : Nat) : Ex := l.getD i .nil
/-- A circuit of lists. -/
def mkC (is ls : List ByteArray) (es : List Ex) : Ci := { name := ⟨#[99]⟩, ni := is.length, fi := nmA is, nl := ls.length, ln := nmA ls, le := exL es, no := ls.length, fo := nmA ls }
theorem nmA_le {l : List ByteArray} (h : l.all (fun s => Nat.ble s.size 100) = true) (i : Nat) : (nmA l i).size ≤ 140737488351232 := by
  unfold nmA
  by_cases hi : i < l.length
  · rw [List.getD_eq_getElem?_getD, List.getElem?_eq_getElem hi, Option.getD_some]
    have := Nat.le_of_ble_eq_true (List.all_eq_true.1 h _ (List.getElem_mem hi))
    omega
  · rw [List.getD_eq_getElem?_getD, List.getElem?_eq_none (by omega)]
    show 0 ≤ _; omega
theorem exL_mem {l : List Ex} {p : Ex → Prop} (h : ∀ e, e ∈ l → p e) {i : Nat} (hi : i < l.length) : p (exL l i) := by
  unfold exL
  rw [List.getD_eq_getElem?_getD, List.getElem?_eq_getElem hi, Option.getD_some]
  exact h _ (List.getElem_mem hi)
theorem mkC_ok {is ls : List ByteArray} {es : List Ex} (h1 : is.all (fun s => Nat.ble s.size 100) = true) (h2 : ls.all (fun s => Nat.ble s.size 100) = true) (hi : is.length ≤ 8) (hl : ls.length ≤ 8) (hn : es.length = ls.length) (he : ∀ e, e ∈ es → okE e ∧ cntE e ≤ 4611686018427387904) : okC (mkC is ls es) where
  name := show 1 ≤ _ by decide
  ni := show is.length ≤ _ by omega
  nl := show ls.length ≤ _ by omega
  no := show ls.length ≤ _ by omega
  fi := fun i _ => nmA_le h1 i
  fo := fun i _ => nmA_le h2 i
  ln := fun i _ => nmA_le h2 i
  le := fun i h => exL_mem he (show i < es.length by rw [hn]; exact h)
def twX (k : Int) (a b : Ex) : Ex := .mk k ⟨#[]⟩ 0 0 (fun _ => 0) 2 fun i => match i with | 0 => a | 1 => b | _ => .nil
def unX (k n : Int) (a : Ex) : Ex := .mk k ⟨#[]⟩ n 0 (fun _ => 0) 1 fun _ => a
theorem twX_ok {k : Int} {a b : Ex} (ha : okE a) (hb : okE b) : okE (twX k a b) := ⟨by decide, by omega, by omega, fun i hi => by
  match i, hi with
  | 0, _ => exact ha
  | 1, _ => exact hb⟩
theorem unX_ok {k n : Int} {a : Ex} (ha : okE a) : okE (unX k n a) := ⟨by decide, by omega, by omega, fun i hi => ha⟩
theorem twX_all {k : Int} {a b : Ex} (hk : k = 4 ∨ k = 7 ∨ k = 12) (ha : allK ksL a) (hb : allK ksL b) : allK ksL (twX k a b) := ⟨by
  rcases hk with rfl | rfl | rfl
  · exact .inr (.inl rfl)
  · exact .inr (.inr (.inl rfl))
  · exact .inr (.inr (.inr (.inr (.inl rfl)))), fun i hi => by
  match i, hi with
  | 0, _ => exact ha
  | 1, _ => exact hb⟩
theorem unX_all {k n : Int} {a : Ex} (hk : k = 8 ∨ k = 14) (ha : allK ksL a) : allK ksL (unX k n a) := ⟨by
  rcases hk with rfl | rfl
  · exact .inr (.inr (.inr (.inl rfl)))
  · exact .inr (.inr (.inr (.inr (.inr rfl)))), fun i hi => ha⟩
theorem nm_all (s : ByteArray) : allK ksL (nmX s) := ⟨.inl rfl, fun i hi => by omega⟩
theorem goE_nm {N : Nat} {t : Int} {es : Env} {s : ByteArray} (h : (lookN es s).isSome = true) : goE N t es (nmX s) := ⟨fun _ => h, by omega, by omega, by omega, by omega, fun i hi => by omega⟩
theorem goE_tw {N : Nat} {t : Int} {es : Env} {k : Int} {a b : Ex} (hk : k = 4 ∨ k = 7 ∨ k = 12) (ha : goE N t es a) (hb : goE N t es b) : goE N t es (twX k a b) := ⟨by omega, by omega, by omega, by omega, by omega, fun i hi => by
  match i, hi with
  | 0, _ => exact ha
  | 1, _ => exact hb⟩
theorem goE_un {N : Nat} {t : Int} {es : Env} {k n : Int} {a : Ex} (hk : k = 8 ∨ k = 14) (hn : 0 ≤ n) (ha : goE N t es a) : goE N t es (unX k n a) := ⟨by omega, by omega, by omega, by omega, by omega, fun i hi => ha⟩
abbrev sx : ByteArray := ⟨#[120]⟩
abbrev sy : ByteArray := ⟨#[121]⟩
/-- The law's circuit. -/
def cL (t : Nat) : Ci := mkC [sx, sy] [⟨#[108]⟩, ⟨#[114]⟩, ⟨#[113]⟩, ⟨#[115]⟩] [twX 7 (nmX sx) (twX 4 (nmX sx) (nmX sy)), twX 4 (twX 7 (nmX sx) (nmX sx)) (twX 7 (nmX sy) (nmX sx)), twX 12 (nmX sx) (nmX sy), unX 14 t (nmX sx)]
def cO (e : Ex) : Ci := mkC [sx] [⟨#[97]⟩] [e]
theorem nx_ok (s : ByteArray) (h : s.size ≤ 100) : okE (nmX s) := nmX_ok s (by omega)
theorem hx_ok : okE (nmX sx) := nx_ok sx (by decide)
theorem hy_ok : okE (nmX sy) := nx_ok sy (by decide)
theorem cL_es (t : Nat) : ∀ e, e ∈ [twX 7 (nmX sx) (twX 4 (nmX sx) (nmX sy)), twX 4 (twX 7 (nmX sx) (nmX sx)) (twX 7 (nmX sy) (nmX sx)), twX 12 (nmX sx) (nmX sy), unX 14 t (nmX sx)] → (okE e ∧ cntE e ≤ 4611686018427387904) ∧ allK ksL e := by
  intro e he
  simp only [List.mem_cons, List.not_mem_nil, or_false] at he
  rcases he with rfl | rfl | rfl | rfl
  · exact ⟨⟨twX_ok hx_ok (twX_ok hx_ok hy_ok), by decide⟩, twX_all (by omega) (nm_all _) (twX_all (by omega) (nm_all _) (nm_all _))⟩
  · exact ⟨⟨twX_ok (twX_ok hx_ok hx_ok) (twX_ok hy_ok hx_ok), by decide⟩, twX_all (by omega) (twX_all (by omega) (nm_all _) (nm_all _)) (twX_all (by omega) (nm_all _) (nm_all _))⟩
  · exact ⟨⟨twX_ok hx_ok hy_ok, by decide⟩, twX_all (by omega) (nm_all _) (nm_all _)⟩
  · exact ⟨⟨unX_ok hx_ok, by show 1 + (0 + 1) ≤ _; omega⟩, unX_all (by omega) (nm_all _)⟩
theorem cL_ok (t : Nat) : okC (cL t) := mkC_ok (by decide) (by decide) (by decide) (by decide) rfl fun e he => (cL_es t e he).1
theorem cO_ok {e : Ex} (h : okE e ∧ cntE e ≤ 4611686018427387904) : okC (cO e) := mkC_ok (by decide) (by decide) (by decide) (by decide) rfl fun e' he => by rw [List.mem_singleton] at he; subst he; exact h
theorem ptypeL {N t sp q : Nat} (h : isL N t sp q) (c : Ci) (hc : okC c) (hk : ∀ i, i < c.nl → allK ksL (c.le i)) : TC Tryz.prog 19 [.g (parC (parL N t sp q)), .g (ciC c)] (typeA (typeQ 0 c (ruL (parL N t sp q) t))) :=
  ptype_tc (parL N t sp q) c (ruL (parL N t sp q) t) ksL t 0 (pmodL h) hc (fun _ ns => rulesL (parL N t sp q) t ns (by unfold isL at h; omega) (by unfold isL at h; omega) (by show (0 : Int) ≤ (N : Int); omega) (by show (N : Int) ≤ _; unfold isL at h; omega)) hk
theorem pevalL {N t sp q : Nat} (h : isL N t sp q) (c : Ci) (hc : okC c) (hk : ∀ i, i < c.nl → allK ksL (c.le i)) (he : (typeQ 0 c (ruL (parL N t sp q) t)).2.2 = 0) (m : Nat) (ln : Nat → Nat) (vs : Nat → Nat → Int) (hm : m ≤ 140737488351232) (hln : ∀ i, i < m → ln i ≤ 140737488351232) (hgo : goC N t c vs) :
    TC Tryz.prog 33 [.g (parC (parL N t sp q)), .g (ciC c), vsA m ln vs] (evalA N t 0 c m ln vs) := by
  have T := peval_tc (parL N t sp q) c N t (typeQ 0 c (ruL (parL N t sp q) t)).2.2 (typeQ 0 c (ruL (parL N t sp q) t)).2.1 (typeQ 0 c (ruL (parL N t sp q) t)).1 rfl (by unfold isL at h; omega) (by unfold isL at h; omega) (by unfold isL at h; omega) (by unfold isL at h; omega) (by unfold isL at h; omega) (by unfold isL at h; omega)
    (ptypeL h c hc hk) (pmodL h) hc m ln vs hm hln fun _ => hgo
  rw [he] at T
  exact T
theorem cL_type {N t sp q : Nat} (h : isL N t sp q) : (typeQ 0 (cL t) (ruL (parL N t sp q) t)).2.2 = 0 := by
  rcases h with ⟨rfl, rfl, rfl, rfl⟩ | ⟨rfl, rfl, rfl, rfl⟩ | ⟨rfl, rfl, rfl, rfl⟩ <;> kernel_rfl
theorem cL_go {N t sp q : Nat} (h : isL N t sp q) (vs : Nat → Nat → Int) : goC N t (cL t) vs := by
  refine ⟨fun i hi => ?_, by show 4 ≤ 8; omega, fun i hi => ?_⟩
  · have hi' : i < 4 := hi
    have hx : ∀ i, i < 4 → (lookN (envC N t (cL t) vs i) sx).isSome = true := fun i hi => by
      rcases (show i = 0 ∨ i = 1 ∨ i = 2 ∨ i = 3 by omega) with rfl | rfl | rfl | rfl <;> kernel_rfl
    have hy : ∀ i, i < 4 → (lookN (envC N t (cL t) vs i) sy).isSome = true := fun i hi => by
      rcases (show i = 0 ∨ i = 1 ∨ i = 2 ∨ i = 3 by omega) with rfl | rfl | rfl | rfl <;> kernel_rfl
    have gx := goE_nm (N := N) (t := t) (hx i hi')
    have gy := goE_nm (N := N) (t := t) (hy i hi')
    refine ⟨((cL_ok t).le i hi).1, ?_, ?_⟩
    · rcases h with ⟨rfl, rfl, rfl, rfl⟩ | ⟨rfl, rfl, rfl, rfl⟩ | ⟨rfl, rfl, rfl, rfl⟩
      all_goals
        rcases (show i = 0 ∨ i = 1 ∨ i = 2 ∨ i = 3 by omega) with rfl | rfl | rfl | rfl <;> kernel_rfl
    · match i, hi' with
      | 0, _ => exact goE_tw (by omega) gx (goE_tw (by omega) gx gy)
      | 1, _ => exact goE_tw (by omega) (goE_tw (by omega) gx gx) (goE_tw (by omega) gy gx)
      | 2, _ => exact goE_tw (by omega) gx gy
      | 3, _ => exact goE_un (by omega) (by omega) gx
  · have hi' : i < 4 := hi
    show (lookN (envC N t (cL t) vs 4) ((cL t).fo i)).isSome = true
    rcases (show i = 0 ∨ i = 1 ∨ i = 2 ∨ i = 3 by omega) with rfl | rfl | rfl | rfl <;> kernel_rfl
theorem cO_go {N : Nat} {t : Int} {e : Ex} {vs : Nat → Nat → Int} (ho : okE e) (hf : formB e = true) (hg : goE N t (envC N t (cO e) vs 0) e) : goC N t (cO e) vs := by
  refine ⟨fun i hi => ?_, by show 1 ≤ 8; omega, fun i hi => ?_⟩
  · obtain rfl : i = 0 := by have : i < 1 := hi; omega
    exact ⟨ho, hf, hg⟩
  · obtain rfl : i = 0 := by have : i < 1 := hi; omega
    show (lookN (envC N t (cO e) vs 1) ((cO e).fo 0)).isSome = true
    kernel_rfl
abbrev spL : Nat := 2147483249
abbrev sqL : Nat := 2147477809
theorem isL8 : isL 8 17 spL sqL := .inl ⟨rfl, rfl, rfl, rfl⟩
def shV : Nat → Nat → Int := fun _ j => (j : Int) + 1
theorem peval_sh {e : Ex} (m : Nat) (hm : m ≤ 1) (ho : okE e ∧ cntE e ≤ 4611686018427387904) (hk : allK ksL e) (hf : formB e = true) (hg : goE 8 17 (envC 8 17 (cO e) shV 0) e) (ht : (typeQ 0 (cO e) (ruL (parL 8 17 spL sqL) 17)).2.2 = 0) :
    TC Tryz.prog 33 [.g (parC (parL 8 17 spL sqL)), .g (ciC (cO e)), vsA m (fun _ => 8) shV] (evalA 8 17 0 (cO e) m (fun _ => 8) shV) :=
  pevalL isL8 (cO e) (cO_ok ho) (fun i hi => by obtain rfl : i = 0 := by have : i < 1 := hi; omega
                                                exact hk) ht m _ _ (by omega) (fun _ _ => by show 8 ≤ _; omega) (cO_go ho.1 hf hg)
theorem evalA_clo (N : Nat) (t e : Int) (c : Ci) (m : Nat) (ln : Nat → Nat) (vs : Nat → Nat → Int) : Clo (evalA N t e c m ln vs) := by
  unfold evalA vcA
  split
  · simp only [Wv.BC]
  · split
    · simp only [Wv.BC]
    · split <;> simp only [Wv.BC]
def xR : Ex := unX 8 1 (nmX sx)
def xM : Ex := twX 7 (nmX sx) (nmX sx)
def shP : AV := .g (parC (parL 8 17 spL sqL))
def shOrc : List (FuncId × List AV × AV) := [(28, [.v (.int .i64 8), .v (.int .u32 17), .v (.int .i64 1), .v (.int .i64 1)], .tup [shP, .v (.int .i64 0)]), (33, [shP, .g (ciC (cO xR)), vsA 1 (fun _ => 8) shV], evalA 8 17 0 (cO xR) 1 (fun _ => 8) shV),
  (33, [shP, .g (ciC (cO xM)), vsA 1 (fun _ => 8) shV], evalA 8 17 0 (cO xM) 1 (fun _ => 8) shV), (33, [shP, .g (ciC (cO (nmX sx))), vsA 0 (fun _ => 8) shV], evalA 8 17 0 (cO (nmX sx)) 0 (fun _ => 8) shV)]
theorem shOrc_ok : OrcOk Tryz.prog (orcL shOrc) := orcL_ok fun q h => by
  have hx : ∀ e, (lookN (envC 8 17 (cO e) shV 0) sx).isSome = true := fun e => by kernel_rfl
  simp only [shOrc, List.mem_cons, List.not_mem_nil, or_false] at h
  rcases h with rfl | rfl | rfl | rfl
  · exact ⟨dfL1 ▸ rdef_tc 8 17 (by omega) (by omega), by unfold shP; simp only [Wv.BC]; exact parC_clo _⟩
  · exact ⟨peval_sh 1 (by omega) ⟨unX_ok hx_ok, by decide⟩ (unX_all (by omega) (nm_all _)) (by kernel_rfl) (goE_un (by omega) (by omega) (goE_nm (hx _))) (by kernel_rfl), evalA_clo 8 17 0 (cO xR) 1 (fun _ => 8) shV⟩
  · exact ⟨peval_sh 1 (by omega) ⟨twX_ok hx_ok hx_ok, by decide⟩ (twX_all (by omega) (nm_all _) (nm_all _)) (by kernel_rfl) (goE_tw (by omega) (goE_nm (hx _)) (goE_nm (hx _))) (by kernel_rfl), evalA_clo 8 17 0 (cO xM) 1 (fun _ => 8) shV⟩
  · exact ⟨peval_sh 0 (by omega) ⟨hx_ok, by decide⟩ (nm_all _) (by kernel_rfl) (goE_nm (hx _)) (by kernel_rfl), evalA_clo 8 17 0 (cO (nmX sx)) 0 (fun _ => 8) shV⟩
theorem shown24_tc : TC Tryz.prog 30 [] (.v (.bool true)) :=
  TC.reck (by kernel_rfl) 1000 100 tbPln_ok shOrc_ok (by kernel_rfl)
end Go.Proofs.YtljfgdlgmdcmfaaGreat
