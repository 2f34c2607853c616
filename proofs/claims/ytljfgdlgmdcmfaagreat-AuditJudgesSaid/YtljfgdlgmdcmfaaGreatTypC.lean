/- The library's IndexFunc, ContainsFunc, at each kind of element. (Printed by gen_TypC.py.) -/
import Derived.Test.YtljfgdlgmdcmfaaGreatTypB
namespace Go.Proofs.YtljfgdlgmdcmfaaGreat
open Go.RowKit Wv
set_option linter.unusedVariables false
set_option linter.unusedSimpArgs false

set_option maxHeartbeats 400000 in
set_option maxRecDepth 100000 in
theorem zindexf_ht {h : Hp} (n : Nat) (f : Nat → Int) (p : Nat → Bool) (fid : FuncId) (fst cap : List AV) (hn : n ≤ 140737488351232) (hp : ∀ i, i < n → HT Tryz.prog fid (fst ++ [.v (.int .i64 (f i))] ++ cap) h (fun r h' => r = .v (.bool (p i)) ∧ h' = h)) :
    HT Tryz.prog 210 [.t n 1 (tab n fun i => .v (.int .i64 (f i))), .fn (.func fid) fst cap] h (fun r h' => r = .v (.int .i64 (idxO (findF p n))) ∧ h' = h) := by
  refine Wv.HT.by 19 [0, 8, 7, 9, 1, 5, 16, 4] [(1000000, h.length)] [.tmp 4] Tryz.func210 rfl rfl rfl ?base ?_
  case base => rfl
  simp (disch := first | assumption | exact Wv.D | fail) only [Wv.B, simprocAttr]
  refine wfor (σ := Nat) (fun i => [(0, .t n 1 (tab n fun i => .v (.int .i64 (f i)))), (1, .fn (.func fid) fst cap), (7, .v (.int .i64 n)), (8, .v (.int .i64 i))]) (fun i => h)
    (fun i => i ≤ n ∧ ∀ j, j < i → p j = false) (fun i => n - i) 0 ⟨Nat.zero_le _, fun j hj => by omega⟩ rfl Wv.V ?_
  rintro i ⟨hi, hb⟩
  by_cases hlt : i < n
  · have e1 : (i : Int) < n := by omega
    simp (disch := first | assumption | exact Wv.D | fail) only [Wv.B, simprocAttr]
    refine call_HT (hp i hlt) ?_
    rintro av h' ⟨rfl, rfl⟩
    cases hq : p i with
    | true =>
      have hf := findF_at hlt hq hb
      simp (disch := first | assumption | exact Wv.D | fail) only [Wv.B, simprocAttr, hq, hf, idxO]
    | false =>
      simp (disch := first | assumption | exact Wv.D | fail) only [Wv.B, simprocAttr, hq]
      refine k_next (i + 1) ⟨by omega, fun j hj => ?_⟩ (by omega) rfl Wv.V2
      by_cases e : j = i
      · subst e; exact hq
      · exact hb j (by omega)
  · have hin : i = n := by omega
    subst hin
    have hf := findF_none hb
    simp (disch := first | assumption | exact Wv.D | fail) only [Wv.B, simprocAttr, hf, idxO]
set_option maxHeartbeats 400000 in
set_option maxRecDepth 100000 in
theorem zcontf_ht {h : Hp} (n : Nat) (f : Nat → Int) (p : Nat → Bool) (fid : FuncId) (fst cap : List AV) (hn : n ≤ 140737488351232) (hp : ∀ i, i < n → HT Tryz.prog fid (fst ++ [.v (.int .i64 (f i))] ++ cap) h (fun r h' => r = .v (.bool (p i)) ∧ h' = h)) :
    HT Tryz.prog 159 [.t n 1 (tab n fun i => .v (.int .i64 (f i))), .fn (.func fid) fst cap] h (fun r h' => r = .v (.bool (anyN n p)) ∧ h' = h) := by
  refine Wv.HT.by 9 [0, 1, 4] [(1000000, h.length)] [.tmp 4] Tryz.func159 rfl rfl rfl ?base ?_
  case base => rfl
  simp (disch := first | assumption | exact Wv.D | fail) only [Wv.B, simprocAttr]
  refine call_HT (fst := []) (cap := []) (zindexf_ht n f p fid fst cap hn hp) ?_
  rintro av h' ⟨rfl, rfl⟩
  simp (disch := first | assumption | exact Wv.D | fail) only [Wv.B, simprocAttr, idxO_any]

set_option maxHeartbeats 400000 in
set_option maxRecDepth 100000 in
theorem iindexf_ht {h : Hp} (n : Nat) (f : Nat → Int) (p : Nat → Bool) (fid : FuncId) (fst cap : List AV) (hn : n ≤ 140737488351232) (hp : ∀ i, i < n → HT Tryz.prog fid (fst ++ [.v (.int .i64 (f i))] ++ cap) h (fun r h' => r = .v (.bool (p i)) ∧ h' = h)) :
    HT Tryz.prog 135 [.t n 1 (tab n fun i => .v (.int .i64 (f i))), .fn (.func fid) fst cap] h (fun r h' => r = .v (.int .i64 (idxO (findF p n))) ∧ h' = h) := by
  refine Wv.HT.by 19 [0, 8, 7, 9, 1, 5, 16, 4] [(1000000, h.length)] [.tmp 4] Tryz.func135 rfl rfl rfl ?base ?_
  case base => rfl
  simp (disch := first | assumption | exact Wv.D | fail) only [Wv.B, simprocAttr]
  refine wfor (σ := Nat) (fun i => [(0, .t n 1 (tab n fun i => .v (.int .i64 (f i)))), (1, .fn (.func fid) fst cap), (7, .v (.int .i64 n)), (8, .v (.int .i64 i))]) (fun i => h)
    (fun i => i ≤ n ∧ ∀ j, j < i → p j = false) (fun i => n - i) 0 ⟨Nat.zero_le _, fun j hj => by omega⟩ rfl Wv.V ?_
  rintro i ⟨hi, hb⟩
  by_cases hlt : i < n
  · have e1 : (i : Int) < n := by omega
    simp (disch := first | assumption | exact Wv.D | fail) only [Wv.B, simprocAttr]
    refine call_HT (hp i hlt) ?_
    rintro av h' ⟨rfl, rfl⟩
    cases hq : p i with
    | true =>
      have hf := findF_at hlt hq hb
      simp (disch := first | assumption | exact Wv.D | fail) only [Wv.B, simprocAttr, hq, hf, idxO]
    | false =>
      simp (disch := first | assumption | exact Wv.D | fail) only [Wv.B, simprocAttr, hq]
      refine k_next (i + 1) ⟨by omega, fun j hj => ?_⟩ (by omega) rfl Wv.V2
      by_cases e : j = i
      · subst e; exact hq
      · exact hb j (by omega)
  · have hin : i = n := by omega
    subst hin
    have hf := findF_none hb
    simp (disch := first | assumption | exact Wv.D | fail) only [Wv.B, simprocAttr, hf, idxO]
set_option maxHeartbeats 400000 in
set_option maxRecDepth 100000 in
theorem icontf_ht {h : Hp} (n : Nat) (f : Nat → Int) (p : Nat → Bool) (fid : FuncId) (fst cap : List AV) (hn : n ≤ 140737488351232) (hp : ∀ i, i < n → HT Tryz.prog fid (fst ++ [.v (.int .i64 (f i))] ++ cap) h (fun r h' => r = .v (.bool (p i)) ∧ h' = h)) :
    HT Tryz.prog 96 [.t n 1 (tab n fun i => .v (.int .i64 (f i))), .fn (.func fid) fst cap] h (fun r h' => r = .v (.bool (anyN n p)) ∧ h' = h) := by
  refine Wv.HT.by 9 [0, 1, 4] [(1000000, h.length)] [.tmp 4] Tryz.func96 rfl rfl rfl ?base ?_
  case base => rfl
  simp (disch := first | assumption | exact Wv.D | fail) only [Wv.B, simprocAttr]
  refine call_HT (fst := []) (cap := []) (iindexf_ht n f p fid fst cap hn hp) ?_
  rintro av h' ⟨rfl, rfl⟩
  simp (disch := first | assumption | exact Wv.D | fail) only [Wv.B, simprocAttr, idxO_any]

set_option maxHeartbeats 400000 in
set_option maxRecDepth 100000 in
theorem xindexf_ht {h : Hp} (n : Nat) (cells : List AV) (ec : Nat → List AV) (hl : cells.length = n * 5) (hel : ∀ i, i < n → List.take 5 (List.drop (i * 5) cells) = ec i) (p : Nat → Bool) (fid : FuncId) (fst cap : List AV) (hn : n ≤ 140737488351232) (hp : ∀ i, i < n → HT Tryz.prog fid (fst ++ [.g (ec i)] ++ cap) h (fun r h' => r = .v (.bool (p i)) ∧ h' = h)) :
    HT Tryz.prog 211 [.t n 5 cells, .fn (.func fid) fst cap] h (fun r h' => r = .v (.int .i64 (idxO (findF p n))) ∧ h' = h) := by
  refine Wv.HT.by 19 [0, 8, 7, 9, 1, 5, 16, 4] [(1000000, h.length)] [.tmp 4] Tryz.func211 rfl rfl rfl ?base ?_
  case base => rfl
  simp (disch := first | assumption | exact Wv.D | fail) only [Wv.B, simprocAttr]
  refine wfor (σ := Nat) (fun i => [(0, .t n 5 cells), (1, .fn (.func fid) fst cap), (7, .v (.int .i64 n)), (8, .v (.int .i64 i))]) (fun i => h)
    (fun i => i ≤ n ∧ ∀ j, j < i → p j = false) (fun i => n - i) 0 ⟨Nat.zero_le _, fun j hj => by omega⟩ rfl Wv.V ?_
  rintro i ⟨hi, hb⟩
  by_cases hlt : i < n
  · have e1 : (i : Int) < n := by omega
    have hi2 := hel i hlt
    have hlen : 5 ≤ (List.drop (i * 5) cells).length := by rw [List.length_drop, hl]; omega
    simp (disch := first | assumption | exact Wv.D | fail) only [Wv.B, simprocAttr, hi2]
    refine call_HT (hp i hlt) ?_
    rintro av h' ⟨rfl, rfl⟩
    cases hq : p i with
    | true =>
      have hf := findF_at hlt hq hb
      simp (disch := first | assumption | exact Wv.D | fail) only [Wv.B, simprocAttr, hq, hf, idxO]
    | false =>
      simp (disch := first | assumption | exact Wv.D | fail) only [Wv.B, simprocAttr, hq]
      refine k_next (i + 1) ⟨by omega, fun j hj => ?_⟩ (by omega) rfl Wv.V2
      by_cases e : j = i
      · subst e; exact hq
      · exact hb j (by omega)
  · have hin : i = n := by omega
    subst hin
    have hf := findF_none hb
    simp (disch := first | assumption | exact Wv.D | fail) only [Wv.B, simprocAttr, hf, idxO]
set_option maxHeartbeats 400000 in
set_option maxRecDepth 100000 in
theorem xcontf_ht {h : Hp} (n : Nat) (cells : List AV) (ec : Nat → List AV) (hl : cells.length = n * 5) (hel : ∀ i, i < n → List.take 5 (List.drop (i * 5) cells) = ec i) (p : Nat → Bool) (fid : FuncId) (fst cap : List AV) (hn : n ≤ 140737488351232) (hp : ∀ i, i < n → HT Tryz.prog fid (fst ++ [.g (ec i)] ++ cap) h (fun r h' => r = .v (.bool (p i)) ∧ h' = h)) :
    HT Tryz.prog 161 [.t n 5 cells, .fn (.func fid) fst cap] h (fun r h' => r = .v (.bool (anyN n p)) ∧ h' = h) := by
  refine Wv.HT.by 9 [0, 1, 4] [(1000000, h.length)] [.tmp 4] Tryz.func161 rfl rfl rfl ?base ?_
  case base => rfl
  simp (disch := first | assumption | exact Wv.D | fail) only [Wv.B, simprocAttr]
  refine call_HT (fst := []) (cap := []) (xindexf_ht n cells ec hl hel p fid fst cap hn hp) ?_
  rintro av h' ⟨rfl, rfl⟩
  simp (disch := first | assumption | exact Wv.D | fail) only [Wv.B, simprocAttr, idxO_any]

set_option maxHeartbeats 400000 in
set_option maxRecDepth 100000 in
theorem lindexf_ht {h : Hp} (n : Nat) (cells : List AV) (ec : Nat → List AV) (hl : cells.length = n * 6) (hel : ∀ i, i < n → List.take 6 (List.drop (i * 6) cells) = ec i) (p : Nat → Bool) (fid : FuncId) (fst cap : List AV) (hn : n ≤ 140737488351232) (hp : ∀ i, i < n → HT Tryz.prog fid (fst ++ [.g (ec i)] ++ cap) h (fun r h' => r = .v (.bool (p i)) ∧ h' = h)) :
    HT Tryz.prog 156 [.t n 6 cells, .fn (.func fid) fst cap] h (fun r h' => r = .v (.int .i64 (idxO (findF p n))) ∧ h' = h) := by
  refine Wv.HT.by 19 [0, 8, 7, 9, 1, 5, 16, 4] [(1000000, h.length)] [.tmp 4] Tryz.func156 rfl rfl rfl ?base ?_
  case base => rfl
  simp (disch := first | assumption | exact Wv.D | fail) only [Wv.B, simprocAttr]
  refine wfor (σ := Nat) (fun i => [(0, .t n 6 cells), (1, .fn (.func fid) fst cap), (7, .v (.int .i64 n)), (8, .v (.int .i64 i))]) (fun i => h)
    (fun i => i ≤ n ∧ ∀ j, j < i → p j = false) (fun i => n - i) 0 ⟨Nat.zero_le _, fun j hj => by omega⟩ rfl Wv.V ?_
  rintro i ⟨hi, hb⟩
  by_cases hlt : i < n
  · have e1 : (i : Int) < n := by omega
    have hi2 := hel i hlt
    have hlen : 6 ≤ (List.drop (i * 6) cells).length := by rw [List.length_drop, hl]; omega
    simp (disch := first | assumption | exact Wv.D | fail) only [Wv.B, simprocAttr, hi2]
    refine call_HT (hp i hlt) ?_
    rintro av h' ⟨rfl, rfl⟩
    cases hq : p i with
    | true =>
      have hf := findF_at hlt hq hb
      simp (disch := first | assumption | exact Wv.D | fail) only [Wv.B, simprocAttr, hq, hf, idxO]
    | false =>
      simp (disch := first | assumption | exact Wv.D | fail) only [Wv.B, simprocAttr, hq]
      refine k_next (i + 1) ⟨by omega, fun j hj => ?_⟩ (by omega) rfl Wv.V2
      by_cases e : j = i
      · subst e; exact hq
      · exact hb j (by omega)
  · have hin : i = n := by omega
    subst hin
    have hf := findF_none hb
    simp (disch := first | assumption | exact Wv.D | fail) only [Wv.B, simprocAttr, hf, idxO]
set_option maxHeartbeats 400000 in
set_option maxRecDepth 100000 in
theorem lcontf_ht {h : Hp} (n : Nat) (cells : List AV) (ec : Nat → List AV) (hl : cells.length = n * 6) (hel : ∀ i, i < n → List.take 6 (List.drop (i * 6) cells) = ec i) (p : Nat → Bool) (fid : FuncId) (fst cap : List AV) (hn : n ≤ 140737488351232) (hp : ∀ i, i < n → HT Tryz.prog fid (fst ++ [.g (ec i)] ++ cap) h (fun r h' => r = .v (.bool (p i)) ∧ h' = h)) :
    HT Tryz.prog 106 [.t n 6 cells, .fn (.func fid) fst cap] h (fun r h' => r = .v (.bool (anyN n p)) ∧ h' = h) := by
  refine Wv.HT.by 9 [0, 1, 4] [(1000000, h.length)] [.tmp 4] Tryz.func106 rfl rfl rfl ?base ?_
  case base => rfl
  simp (disch := first | assumption | exact Wv.D | fail) only [Wv.B, simprocAttr]
  refine call_HT (fst := []) (cap := []) (lindexf_ht n cells ec hl hel p fid fst cap hn hp) ?_
  rintro av h' ⟨rfl, rfl⟩
  simp (disch := first | assumption | exact Wv.D | fail) only [Wv.B, simprocAttr, idxO_any]

set_option maxHeartbeats 400000 in
set_option maxRecDepth 100000 in
theorem scontf_ht {h : Hp} (n : Nat) (f : Nat → ByteArray) (p : Nat → Bool) (fid : FuncId) (fst cap : List AV) (hn : n ≤ 140737488351232) (hp : ∀ i, i < n → HT Tryz.prog fid (fst ++ [.v (.string (f i))] ++ cap) h (fun r h' => r = .v (.bool (p i)) ∧ h' = h)) :
    HT Tryz.prog 104 [strsA n f, .fn (.func fid) fst cap] h (fun r h' => r = .v (.bool (anyN n p)) ∧ h' = h) := by
  unfold strsA
  refine Wv.HT.by 9 [0, 1, 4] [(1000000, h.length)] [.tmp 4] Tryz.func104 rfl rfl rfl ?base ?_
  case base => rfl
  simp (disch := first | assumption | exact Wv.D | fail) only [Wv.B, simprocAttr]
  refine call_HT (fst := []) (cap := []) (sindexf_ht n f p fid fst cap hn hp) ?_
  rintro av h' ⟨rfl, rfl⟩
  simp (disch := first | assumption | exact Wv.D | fail) only [Wv.B, simprocAttr, idxO_any]

end Go.Proofs.YtljfgdlgmdcmfaaGreat
