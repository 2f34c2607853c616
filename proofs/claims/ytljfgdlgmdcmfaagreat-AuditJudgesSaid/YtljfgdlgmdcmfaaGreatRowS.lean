/- What arguments read as: the parts of trees; rows of numbers. -/
import Derived.Test.YtljfgdlgmdcmfaaGreatRowT
namespace Go.Proofs.YtljfgdlgmdcmfaaGreat
open Go.ChangeShapes Go.WideShapes Go.ChangeAt Go.RowKit Go.Deep Wv
set_option linter.unusedVariables false

section
variable {P : Program} {t : TypeId} {l : List AV}
theorem sh_bool (ht : P.underlying t = some .bool) (h : Sh P t l) : ∃ b, l = [.v (.bool b)] := by
  cases h with
  | bool _ b => exact ⟨b, rfl⟩
  | _ h => rw [ht] at h; cases h
theorem sh_int {k : IntKind} (ht : P.underlying t = some (.int k)) (h : Sh P t l) : ∃ z, l = [.v (.int k z)] ∧ (Lit.int k z).wf = true := by
  cases h with
  | int h hz => rw [ht] at h; injection h with h; injection h with h; subst h; exact ⟨_, rfl, hz⟩
  | bool h => rw [ht] at h; cases h
  | str h => rw [ht] at h; cases h
  | slice h => rw [ht] at h; cases h
  | struct h => rw [ht] at h; cases h
theorem sh_str (ht : P.underlying t = some .string) (h : Sh P t l) : ∃ s : ByteArray, l = [.v (.string s)] ∧ s.size ≤ reachBytes := by
  cases h with
  | str h hs => exact ⟨_, rfl, hs⟩
  | bool h => rw [ht] at h; cases h
  | int h => rw [ht] at h; cases h
  | slice h => rw [ht] at h; cases h
  | struct h => rw [ht] at h; cases h
theorem sh_slice {e : TypeId} (ht : P.underlying t = some (.slice e)) (hb : 1 ≤ P.bytesOf e) (h : Sh P t l) : ∃ (n : Nat) (f : Nat → List AV), l = [.t n (P.cellsOf e) ((List.range n).flatMap f)] ∧ n ≤ reachBytes ∧ ∀ i, i < n → Sh P e (f i) := by
  cases h with
  | @slice _ e' n f h hn hl hf =>
    rw [ht] at h; injection h with h; injection h with h; subst h
    exact ⟨n, f, rfl, Nat.le_trans (by have := Nat.mul_le_mul_left n hb; omega) hn, hf⟩
  | bool h => rw [ht] at h; cases h
  | int h => rw [ht] at h; cases h
  | str h => rw [ht] at h; cases h
  | struct h => rw [ht] at h; cases h
theorem sh_struct {fs : Array Field} (ht : P.underlying t = some (.struct fs)) (h : Sh P t l) : l.length = P.cellsOf t ∧ ∀ (i : Nat) (f : Field), fs[i]? = some f → Sh P f.type ((l.drop f.offset).take (P.cellsOf f.type)) := by
  cases h with
  | struct h hl hf => rw [ht] at h; injection h with h; injection h with h; subst h; exact ⟨hl, hf⟩
  | bool h => rw [ht] at h; cases h
  | int h => rw [ht] at h; cases h
  | str h => rw [ht] at h; cases h
  | slice h => rw [ht] at h; cases h
theorem flat_one {α : Type} {n : Nat} {f : Nat → List α} {g : Nat → α} (h : ∀ i, i < n → f i = [g i]) : (List.range n).flatMap f = (List.range n).map g := by
  have : ∀ l : List Nat, (∀ i, i ∈ l → f i = [g i]) → l.flatMap f = l.map g := fun l => by
    induction l with
    | nil => intro _; rfl
    | cons a r ih => intro h; rw [List.flatMap_cons, h a (List.mem_cons_self ..), ih fun i hi => h i (List.mem_cons_of_mem _ hi)]; rfl
  exact this _ fun i hi => h i (List.mem_range.1 hi)
theorem flat_congr {α : Type} {n : Nat} {f g : Nat → List α} (h : ∀ i, i < n → f i = g i) : (List.range n).flatMap f = (List.range n).flatMap g := by
  have : ∀ l : List Nat, (∀ i, i ∈ l → f i = g i) → l.flatMap f = l.flatMap g := fun l => by
    induction l with
    | nil => intro _; rfl
    | cons a r ih => intro h; rw [List.flatMap_cons, List.flatMap_cons, h a (List.mem_cons_self ..), ih fun i hi => h i (List.mem_cons_of_mem _ hi)]
  exact this _ fun i hi => h i (List.mem_range.1 hi)
theorem sh_ints {e : TypeId} {k : IntKind} (ht : P.underlying t = some (.slice e)) (he : P.underlying e = some (.int k)) (hb : 1 ≤ P.bytesOf e) (hc : P.cellsOf e = 1) (h : Sh P t l) :
    ∃ (n : Nat) (f : Nat → Int), l = [.t n 1 (tab n fun i => .v (.int k (f i)))] ∧ n ≤ reachBytes ∧ ∀ i, i < n → (Lit.int k (f i)).wf = true := by
  obtain ⟨n, f, rfl, hn, hf⟩ := sh_slice ht hb h
  obtain ⟨g, hg⟩ := choose_lt fun i hi => sh_int he (hf i hi)
  exact ⟨n, g, by rw [hc, flat_one fun i hi => (hg i hi).1]; rfl, hn, fun i hi => (hg i hi).2⟩
theorem sh_strs {e : TypeId} (ht : P.underlying t = some (.slice e)) (he : P.underlying e = some .string) (hb : 1 ≤ P.bytesOf e) (hc : P.cellsOf e = 1) (h : Sh P t l) :
    ∃ (n : Nat) (f : Nat → ByteArray), l = [.t n 1 (tab n fun i => .v (.string (f i)))] ∧ n ≤ reachBytes ∧ ∀ i, i < n → (f i).size ≤ reachBytes := by
  obtain ⟨n, f, rfl, hn, hf⟩ := sh_slice ht hb h
  obtain ⟨g, hg⟩ := choose_lt (α := ByteArray) fun i hi => sh_str he (hf i hi)
  exact ⟨n, g, by rw [hc, flat_one fun i hi => (hg i hi).1]; rfl, hn, fun i hi => (hg i hi).2⟩
end
theorem lightP_arg {H : Type} {P : Program} {ts : List TypeId} {ds : List (DataW H)} (h : (DataW.weightsEach P ts ds).all (· ≤ reachBytes) = true) {j : Nat} {t : TypeId} {d : DataW H} (ht : ts[j]? = some t) (hd : ds[j]? = some d) : LightP P t d :=
  fun n hn => by simpa using List.all_eq_true.1 h n (weights_eachP ht hd n hn)
end Go.Proofs.YtljfgdlgmdcmfaaGreat
