/- Walks of the layer of keys: powers of secrets: the closure, each. keys.Power. -/
import Derived.Test.YtjfjbkocopaehaaDoorKeyY
import Derived.Test.YtjfjbkocopaehaaDoorMthA
import Derived.Deep.WholeRow
/-! Walks of the layer of keys: powers of secrets: the closure, each. -/
namespace Go.Proofs.YtjfjbkocopaehaaDoor
open Go.RowKit

def i64s (l : List Int) : List Value := l.map (Value.int .i64)

theorem Blk.icell {w : World} {g : Nat} {l : List Int} {T : TypeId} (h : Blk w g (i64s l) T) (i : Nat) (hi : i < l.length) : w.cell? ⟨g, i, none⟩ = some (.int .i64 (l.getD i 0)) := by
  have := h.cell i (by unfold i64s; rw [List.length_map]; exact hi)
  rw [this]; unfold i64s; rw [List.getElem_map, getD_lt hi]
theorem Blk.iset {w : World} {g : Nat} {l : List Int} {T : TypeId} (h : Blk w g (i64s l) T) (i : Nat) (z : Int) : Blk (w.setCell ⟨g, i, none⟩ (.int .i64 z)).drew g (i64s (l.set i z)) T := by
  have h := h.set i (.int .i64 z)
  unfold i64s at h ⊢
  rw [List.map_set]; exact h.drew

end Go.Proofs.YtjfjbkocopaehaaDoor

/-! keys.Power. -/
namespace Go.Proofs.YtjfjbkocopaehaaDoor
open Go.RowKit

theorem pow_no {pr : Nat → Bool} {x : Par} {l : List Int} {e : Int} (h : csec pr x l ≠ 0 ∨ e < 0 ∨ 2 < e) : powOk pr x l e = false := by
  unfold powOk
  rcases h with h | h | h
  · have : (okB pr x && secB x l) = false := by
      cases hc : (okB pr x && secB x l) with
      | false => rfl
      | true => exfalso; apply h; unfold csec; rw [hc]; rfl
    rw [this]; rfl
  · rw [decide_eq_false (show ¬ 0 ≤ e by omega)]; simp
  · rw [decide_eq_false (show ¬ e ≤ 2 by omega)]; simp

theorem wp_store_row {o : Oper} {a : Act} {w : World} {K : Act → World → Prop} {Q : Exit → Act → World → Prop} (ty : TypeId) (x y : Operand) (ho : o.op = .store ty x y)
    (g : Nat) (hx : a.eval x = .pointer (some ⟨g, 0, none⟩)) (t : TypeId) (cs cs' : Array Value) (hy : a.eval y = .agg cs') (hg : w.heap[g]? = some (.cells cs t (0, 0)))
    (hi : (Tryd.prog.info? ty).map (·.size) = some cs'.size) (hsz : cs.size = cs'.size) (h1 : cs'.all (·.oneCell') = true)
    (h : K (a.put o.dst undef) (w.setRow g cs')) : o.wp Tryd.prog a w K Q := by
  unfold Oper.wp execOp
  simp only [ho, hx, hy, Instr.storeAt, Instr.sureAddr, Sem.run_bind, Sem.run_pure, Result.andThen_ok, run_storeVar_row w g t ty cs cs' hg hi hsz h1]
  unfold Oper.upon
  exact h

theorem wpList_store_row {ops : Array Oper} {rest : List Oper} {o : Oper} {a : Act} {w : World} {Q : Exit → Act → World → Prop} (hgd : o.guard = none) (ty : TypeId) (x y : Operand) (ho : o.op = .store ty x y)
    (g : Nat) (hx : a.eval x = .pointer (some ⟨g, 0, none⟩)) (t : TypeId) (cs cs' : Array Value) (hy : a.eval y = .agg cs') (hg : w.heap[g]? = some (.cells cs t (0, 0)))
    (hi : (Tryd.prog.info? ty).map (·.size) = some cs'.size) (hsz : cs.size = cs'.size) (h1 : cs'.all (·.oneCell') = true)
    (h : wpList Tryd.prog ops Q rest (a.put o.dst undef) (w.setRow g cs')) : wpList Tryd.prog ops Q (o :: rest) a w :=
  wpList_plain hgd fun _ hK => wp_store_row ty x y ho g hx t cs cs' hy hg hi hsz h1 (hK _ _ h)

theorem Blk.row {w : World} {g : Nat} {cs : List Value} {T : TypeId} (h : Blk w g cs T) (ds : List Value) : Blk (w.setRow g ds.toArray) g ds T := setRow_heap w g _ _ T _ h
theorem info64 : (Tryd.prog.info? 2).map (fun i => (i.zero, i.size, i.bytes)) = some (some (.int .i64 0), 1, 8) := by kernel_rfl
theorem i64s_size (l : List Int) : ((i64s l).toArray).size = l.length := by simp [i64s]
theorem i64s_one (l : List Int) : ((i64s l).toArray).all (·.oneCell') = true := by
  rw [Array.all_eq_true]
  intro i hi
  simp [i64s]; rfl
theorem below_row {B g : Nat} {a w : World} (h : Below B a w) (hg : B ≤ g) (cs : Array Value) : Below B a (w.setRow g cs) :=
  h.trans ⟨rfl, rfl, rfl, by simp [World.setRow], fun k hk => setRow_other w g k cs (by omega)⟩

end Go.Proofs.YtjfjbkocopaehaaDoor
