/- What arguments read as: expressions, circuits. -/
import Derived.Test.YtljfgdlgmdcmfaaGreatRowT
import Derived.Test.YtljfgdlgmdcmfaaGreatFldA
namespace Go.Proofs.YtljfgdlgmdcmfaaGreat
open Go.ChangeShapes Go.WideShapes Go.ChangeAt Go.RowKit Go.Deep Wv
set_option linter.unusedVariables false

section
variable {P : Program} {t : TypeId} {l : List AV}
theorem sh_bool (ht : P.underlying t = some .bool) (h : Sh P t l) : ∃ b, l = [.v (.bool b)] := by
  cases h with
  | bool _ b => exact ⟨b, rfl⟩
  | _ h => rw [ht] at h; cases h
theorem sh_int {k : IntKind} (ht : P.underlying t = some (.int k)) (h : Sh P t l) : ∃ z, l = [.v (.int k z)] ∧ (Lit.int k z).wf = true := by
  cases h with
  | int h hz => rw [ht] at h; injection h with h; injection h with h; subst h; exact ⟨_, rfl, hz⟩
  | bool h => rw [ht] at h; cases h
  | str h => rw [ht] at h; cases h
  | slice h => rw [ht] at h; cases h
  | struct h => rw [ht] at h; cases h
theorem sh_str (ht : P.underlying t = some .string) (h : Sh P t l) : ∃ s : ByteArray, l = [.v (.string s)] ∧ s.size ≤ reachBytes := by
  cases h with
  | str h hs => exact ⟨_, rfl, hs⟩
  | bool h => rw [ht] at h; cases h
  | int h => rw [ht] at h; cases h
  | slice h => rw [ht] at h; cases h
  | struct h => rw [ht] at h; cases h
theorem sh_slice {e : TypeId} (ht : P.underlying t = some (.slice e)) (hb : 1 ≤ P.bytesOf e) (h : Sh P t l) : ∃ (n : Nat) (f : Nat → List AV), l = [.t n (P.cellsOf e) ((List.range n).flatMap f)] ∧ n ≤ reachBytes ∧ ∀ i, i < n → Sh P e (f i) := by
  cases h with
  | @slice _ e' n f h hn hl hf =>
    rw [ht] at h; injection h with h; injection h with h; subst h
    exact ⟨n, f, rfl, Nat.le_trans (by have := Nat.mul_le_mul_left n hb; omega) hn, hf⟩
  | bool h => rw [ht] at h; cases h
  | int h => rw [ht] at h; cases h
  | str h => rw [ht] at h; cases h
  | struct h => rw [ht] at h; cases h
theorem sh_struct {fs : Array Field} (ht : P.underlying t = some (.struct fs)) (h : Sh P t l) : l.length = P.cellsOf t ∧ ∀ (i : Nat) (f : Field), fs[i]? = some f → Sh P f.type ((l.drop f.offset).take (P.cellsOf f.type)) := by
  cases h with
  | struct h hl hf => rw [ht] at h; injection h with h; injection h with h; subst h; exact ⟨hl, hf⟩
  | bool h => rw [ht] at h; cases h
  | int h => rw [ht] at h; cases h
  | str h => rw [ht] at h; cases h
  | slice h => rw [ht] at h; cases h
theorem flat_one {α : Type} {n : Nat} {f : Nat → List α} {g : Nat → α} (h : ∀ i, i < n → f i = [g i]) : (List.range n).flatMap f = (List.range n).map g := by
  have : ∀ l : List Nat, (∀ i, i ∈ l → f i = [g i]) → l.flatMap f = l.map g := fun l => by
    induction l with
    | nil => intro _; rfl
    | cons a r ih => intro h; rw [List.flatMap_cons, h a (List.mem_cons_self ..), ih fun i hi => h i (List.mem_cons_of_mem _ hi)]; rfl
  exact this _ fun i hi => h i (List.mem_range.1 hi)
theorem flat_congr {α : Type} {n : Nat} {f g : Nat → List α} (h : ∀ i, i < n → f i = g i) : (List.range n).flatMap f = (List.range n).flatMap g := by
  have : ∀ l : List Nat, (∀ i, i ∈ l → f i = g i) → l.flatMap f = l.flatMap g := fun l => by
    induction l with
    | nil => intro _; rfl
    | cons a r ih => intro h; rw [List.flatMap_cons, List.flatMap_cons, h a (List.mem_cons_self ..), ih fun i hi => h i (List.mem_cons_of_mem _ hi)]
  exact this _ fun i hi => h i (List.mem_range.1 hi)
theorem sh_ints {e : TypeId} {k : IntKind} (ht : P.underlying t = some (.slice e)) (he : P.underlying e = some (.int k)) (hb : 1 ≤ P.bytesOf e) (hc : P.cellsOf e = 1) (h : Sh P t l) :
    ∃ (n : Nat) (f : Nat → Int), l = [.t n 1 (tab n fun i => .v (.int k (f i)))] ∧ n ≤ reachBytes ∧ ∀ i, i < n → (Lit.int k (f i)).wf = true := by
  obtain ⟨n, f, rfl, hn, hf⟩ := sh_slice ht hb h
  obtain ⟨g, hg⟩ := choose_lt fun i hi => sh_int he (hf i hi)
  exact ⟨n, g, by rw [hc, flat_one fun i hi => (hg i hi).1]; rfl, hn, fun i hi => (hg i hi).2⟩
theorem sh_strs {e : TypeId} (ht : P.underlying t = some (.slice e)) (he : P.underlying e = some .string) (hb : 1 ≤ P.bytesOf e) (hc : P.cellsOf e = 1) (h : Sh P t l) :
    ∃ (n : Nat) (f : Nat → ByteArray), l = [.t n 1 (tab n fun i => .v (.string (f i)))] ∧ n ≤ reachBytes ∧ ∀ i, i < n → (f i).size ≤ reachBytes := by
  obtain ⟨n, f, rfl, hn, hf⟩ := sh_slice ht hb h
  obtain ⟨g, hg⟩ := choose_lt (α := ByteArray) fun i hi => sh_str he (hf i hi)
  exact ⟨n, g, by rw [hc, flat_one fun i hi => (hg i hi).1]; rfl, hn, fun i hi => (hg i hi).2⟩
end
instance : Inhabited Ex := ⟨.nil⟩
instance : Inhabited ByteArray := ⟨⟨#[]⟩⟩
theorem len5 {α : Type} {l : List α} (h : l.length = 5) : ∃ a b c d e, l = [a, b, c, d, e] := by
  match l, h with
  | [a, b, c, d, e], _ => exact ⟨a, b, c, d, e, rfl⟩
theorem len6 {α : Type} {l : List α} (h : l.length = 6) : ∃ a b c d e f, l = [a, b, c, d, e, f] := by
  match l, h with
  | [a, b, c, d, e, f], _ => exact ⟨a, b, c, d, e, f, rfl⟩
theorem len4 {α : Type} {l : List α} (h : l.length = 4) : ∃ a b c d, l = [a, b, c, d] := by
  match l, h with
  | [a, b, c, d], _ => exact ⟨a, b, c, d, rfl⟩
set_option maxRecDepth 100000 in
theorem ex_of {t : TypeId} {l : List AV} (h : Sh Tryz.prog t l) : (t = 46 → ∃ e, okE e ∧ l = exC e) := by
  have key : (t = 46 → ∃ e, okE e ∧ l = exC e) ∧ (t = 44 → ∃ (n : Nat) (f : Nat → Ex), n ≤ 140737488351232 ∧ (∀ i, i < n → okE (f i)) ∧ l = [.t n 5 (tabM n fun i => exC (f i))]) := by
    induction h with
    | bool h => exact ⟨fun e => (by subst e; cases Tryz.underlying46.symm.trans h), fun e => (by subst e; cases Tryz.underlying44.symm.trans h)⟩
    | int h => exact ⟨fun e => (by subst e; cases Tryz.underlying46.symm.trans h), fun e => (by subst e; cases Tryz.underlying44.symm.trans h)⟩
    | str h => exact ⟨fun e => (by subst e; cases Tryz.underlying46.symm.trans h), fun e => (by subst e; cases Tryz.underlying44.symm.trans h)⟩
    | @slice t e n f h hn hl hf ih =>
      refine ⟨fun e => (by subst e; cases Tryz.underlying46.symm.trans h), fun e => ?_⟩
      subst e
      have := Tryz.underlying44.symm.trans h
      injection this with this
      injection this with this
      subst this
      have hc : Tryz.prog.cellsOf 46 = 5 := by kernel_rfl
      have hb : 1 ≤ Tryz.prog.bytesOf 46 := Nat.le_of_ble_eq_true (by kernel_rfl)
      obtain ⟨g, hg⟩ := choose_lt (α := Ex) fun i hi => (ih i hi).1 rfl
      rw [hc]
      refine ⟨n, g, ?_, fun i hi => (hg i hi).1, ?_⟩
      · have h1 := Nat.mul_le_mul_left n hb
        have h2 : reachBytes = 140737488351232 := rfl
        omega
      · rw [flat_congr fun i hi => (hg i hi).2]; rfl
    | @struct t fs l h hl hf ih =>
      refine ⟨fun e => ?_, fun e => (by subst e; cases Tryz.underlying44.symm.trans h)⟩
      subst e
      have := Tryz.underlying46.symm.trans h
      injection this with this
      injection this with this
      subst this
      have hc : Tryz.prog.cellsOf 46 = 5 := by kernel_rfl
      rw [hc] at hl
      obtain ⟨a, b, c, d, e, rfl⟩ := len5 hl
      have c1 : Tryz.prog.cellsOf 3 = 1 := by kernel_rfl
      have c2 : Tryz.prog.cellsOf 9 = 1 := by kernel_rfl
      have c3 : Tryz.prog.cellsOf 2 = 1 := by kernel_rfl
      have c4 : Tryz.prog.cellsOf 43 = 1 := by kernel_rfl
      have c5 : Tryz.prog.cellsOf 44 = 1 := by kernel_rfl
      have h0 : Sh Tryz.prog 3 (([a, b, c, d, e].drop 0).take (Tryz.prog.cellsOf 3)) := hf 0 _ rfl
      have h1 : Sh Tryz.prog 9 (([a, b, c, d, e].drop 1).take (Tryz.prog.cellsOf 9)) := hf 1 _ rfl
      have h2 : Sh Tryz.prog 2 (([a, b, c, d, e].drop 2).take (Tryz.prog.cellsOf 2)) := hf 2 _ rfl
      have h3 : Sh Tryz.prog 43 (([a, b, c, d, e].drop 3).take (Tryz.prog.cellsOf 43)) := hf 3 _ rfl
      have h4 := (ih 4 _ rfl).2 rfl
      have h4' : ∃ (n : Nat) (f : Nat → Ex), n ≤ 140737488351232 ∧ (∀ i, i < n → okE (f i)) ∧ ([a, b, c, d, e].drop 4).take (Tryz.prog.cellsOf 44) = [.t n 5 (tabM n fun i => exC (f i))] := h4
      rw [c1] at h0
      rw [c2] at h1
      rw [c3] at h2
      rw [c4] at h3
      rw [c5] at h4'
      obtain ⟨z0, e0, _⟩ := sh_int Tryz.underlying3 h0
      obtain ⟨s1, e1, w1⟩ := sh_str Tryz.underlying9 h1
      obtain ⟨z2, e2, _⟩ := sh_int Tryz.underlying2 h2
      obtain ⟨n3, f3, e3, w3, _⟩ := sh_ints Tryz.underlying43 Tryz.underlying2 (Nat.le_of_ble_eq_true (by kernel_rfl)) (by kernel_rfl) h3
      obtain ⟨n4, f4, w4, o4, e4⟩ := h4'
      have f0 : [a] = [AV.v (.int .i64 z0)] := e0
      have f1 : [b] = [AV.v (.string s1)] := e1
      have f2 : [c] = [AV.v (.int .i64 z2)] := e2
      have f3' : [d] = [AV.t n3 1 (tab n3 fun i => .v (.int .i64 (f3 i)))] := e3
      have f4' : [e] = [AV.t n4 5 (tabM n4 fun i => exC (f4 i))] := e4
      simp only [List.cons.injEq, and_true] at f0 f1 f2 f3' f4'
      subst f0 f1 f2 f3' f4'
      have hr : reachBytes = 140737488351232 := rfl
      exact ⟨.mk z0 s1 z2 n3 f3 n4 f4, ⟨by omega, by omega, w4, o4⟩, rfl⟩
  exact key.1
/-- Types of circuits and their parts. -/
def ciTs : List TypeId := [3, 2, 9, 43, 26, 46, 44, 49, 27, 29]
theorem ciTs_ok : setB Tryz.prog ciTs = true := by kernel_rfl
set_option maxRecDepth 100000 in
theorem let_of {l : List AV} (h : Sh Tryz.prog 49 l) : ∃ s e, s.size ≤ 140737488351232 ∧ okE e ∧ l = letC s e := by
  obtain ⟨hl, hf⟩ := sh_struct Tryz.underlying49 h
  have hc : Tryz.prog.cellsOf 49 = 6 := by kernel_rfl
  rw [hc] at hl
  obtain ⟨a, b, c, d, e, f, rfl⟩ := len6 hl
  have c2 : Tryz.prog.cellsOf 9 = 1 := by kernel_rfl
  have c3 : Tryz.prog.cellsOf 46 = 5 := by kernel_rfl
  have h0 : Sh Tryz.prog 9 (([a, b, c, d, e, f].drop 0).take (Tryz.prog.cellsOf 9)) := hf 0 _ rfl
  have h1 : Sh Tryz.prog 46 (([a, b, c, d, e, f].drop 1).take (Tryz.prog.cellsOf 46)) := hf 1 _ rfl
  rw [c2] at h0
  rw [c3] at h1
  obtain ⟨s, e0, w0⟩ := sh_str Tryz.underlying9 h0
  obtain ⟨x, o1, e1⟩ := ex_of h1 rfl
  have f0 : [a] = [AV.v (.string s)] := e0
  have f1 : [b, c, d, e, f] = exC x := e1
  simp only [List.cons.injEq, and_true] at f0
  subst f0
  have hr : reachBytes = 140737488351232 := rfl
  exact ⟨s, x, by omega, o1, by rw [f1]; rfl⟩
set_option maxRecDepth 100000 in
theorem ci_of {l : List AV} (h : Sh Tryz.prog 29 l) : ∃ c, okC0 c ∧ l = ciC c := by
  obtain ⟨hl, hf⟩ := sh_struct Tryz.underlying29 h
  have hc : Tryz.prog.cellsOf 29 = 4 := by kernel_rfl
  rw [hc] at hl
  obtain ⟨a, b, c, d, rfl⟩ := len4 hl
  have c2 : Tryz.prog.cellsOf 9 = 1 := by kernel_rfl
  have c3 : Tryz.prog.cellsOf 26 = 1 := by kernel_rfl
  have c4 : Tryz.prog.cellsOf 27 = 1 := by kernel_rfl
  have c5 : Tryz.prog.cellsOf 49 = 6 := by kernel_rfl
  have h0 : Sh Tryz.prog 9 (([a, b, c, d].drop 0).take (Tryz.prog.cellsOf 9)) := hf 0 _ rfl
  have h1 : Sh Tryz.prog 26 (([a, b, c, d].drop 1).take (Tryz.prog.cellsOf 26)) := hf 1 _ rfl
  have h2 : Sh Tryz.prog 27 (([a, b, c, d].drop 2).take (Tryz.prog.cellsOf 27)) := hf 2 _ rfl
  have h3 : Sh Tryz.prog 26 (([a, b, c, d].drop 3).take (Tryz.prog.cellsOf 26)) := hf 3 _ rfl
  rw [c2] at h0
  rw [c3] at h1 h3
  rw [c4] at h2
  obtain ⟨s, e0, w0⟩ := sh_str Tryz.underlying9 h0
  obtain ⟨n1, g1, e1, w1, w1'⟩ := sh_strs Tryz.underlying26 Tryz.underlying9 (Nat.le_of_ble_eq_true (by kernel_rfl)) (by kernel_rfl) h1
  obtain ⟨n2, g2, e2, w2, q2⟩ := sh_slice Tryz.underlying27 (Nat.le_of_ble_eq_true (by kernel_rfl)) h2
  obtain ⟨n3, g3, e3, w3, w3'⟩ := sh_strs Tryz.underlying26 Tryz.underlying9 (Nat.le_of_ble_eq_true (by kernel_rfl)) (by kernel_rfl) h3
  obtain ⟨L, hL⟩ := choose_lt (α := ByteArray × Ex) (p := fun i q => q.1.size ≤ 140737488351232 ∧ okE q.2 ∧ g2 i = letC q.1 q.2) fun i hi => by
    obtain ⟨s, e, k1, k2, k3⟩ := let_of (q2 i hi)
    exact ⟨(s, e), (⟨k1, k2, k3⟩ : s.size ≤ 140737488351232 ∧ okE e ∧ g2 i = letC s e)⟩
  have f0 : [a] = [AV.v (.string s)] := e0
  have f1 : [b] = [AV.t n1 1 (tab n1 fun i => .v (.string (g1 i)))] := e1
  have f2 : [c] = [AV.t n2 (Tryz.prog.cellsOf 49) ((List.range n2).flatMap g2)] := e2
  have f3 : [d] = [AV.t n3 1 (tab n3 fun i => .v (.string (g3 i)))] := e3
  rw [c5, flat_congr fun i hi => (hL i hi).2.2] at f2
  simp only [List.cons.injEq, and_true] at f0 f1 f2 f3
  subst f0 f1 f2 f3
  have hr : reachBytes = 140737488351232 := rfl
  exact ⟨{ name := s, ni := n1, fi := g1, nl := n2, ln := fun i => (L i).1, le := fun i => (L i).2, no := n3, fo := g3 },
    ⟨by show s.size ≤ _; omega, by show n1 ≤ _; omega, by show n2 ≤ _; omega, by show n3 ≤ _; omega, fun i hi => by have := w1' i hi; show (g1 i).size ≤ _; omega, fun i hi => by have := w3' i hi; show (g3 i).size ≤ _; omega, fun i hi => (hL i hi).1, fun i hi => (hL i hi).2.1⟩, rfl⟩
theorem lightP_arg {H : Type} {P : Program} {ts : List TypeId} {ds : List (DataW H)} (h : (DataW.weightsEach P ts ds).all (· ≤ reachBytes) = true) {j : Nat} {t : TypeId} {d : DataW H} (ht : ts[j]? = some t) (hd : ds[j]? = some d) : LightP P t d :=
  fun n hn => by simpa using List.all_eq_true.1 h n (weights_eachP ht hd n hn)
set_option maxRecDepth 100000 in
/-- A circuit that is handed over. -/
theorem circ_of {H : Type} {enc : TypeId × Value → H} {w : World} {base b0 : Nat} {spare : Nat → Bool} {held : Bool} {r : Reach} {v : Value} {d : DataW H} {p : List MemPlace}
    (hv : Value.okWide Tryz.prog w r b0 29 v) (h : DataW.Trod enc Tryz.prog w base spare held 29 v d p) (hl : LightP Tryz.prog 29 d) : ∃ c, okC0 c ∧ Rep (bareX w) (.g (ciC c)) v := by
  simp only [Value.okWide, Tryz.underlying29] at hv
  obtain ⟨cs, rfl, _, _⟩ := hv
  obtain ⟨fuel, hf⟩ := h
  obtain ⟨l, s1, s2, s3⟩ := reads ciTs_ok fuel _ _ _ (by unfold ciTs; simp) hf hl
  obtain ⟨c, hc, rfl⟩ := ci_of s1
  refine ⟨c, hc, ?_⟩
  have e : (Value.agg cs) = .agg cs.toList.toArray := by simp
  rw [e]
  exact .g s2.1 s2.2
end Go.Proofs.YtljfgdlgmdcmfaaGreat
