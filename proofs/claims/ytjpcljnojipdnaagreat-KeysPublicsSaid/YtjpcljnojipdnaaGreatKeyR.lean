/- KeysTurned: the walk. -/
import Derived.Test.YtjpcljnojipdnaaGreatKeyQ
import Derived.Deep.AppendSrc
namespace Go.Proofs.YtjpcljnojipdnaaGreat
open Go.RowKit

/-- append(s, nil...) where s has a row: s. -/
theorem wpList_append_room0 {P : Program} {w : World} {ops : Array Oper} {rest : List Oper} {o : Oper} {a : Act} {Q : Exit → Act → World → Prop} (hgd : o.guard = none) (s x : Operand) (t : TypeId)
    (ho : o.op = .call { callee := .builtin .append, args := #[s, x], argTypes := #[t, t] }) (e : TypeId) (i : TypeInfo) (ht : P.underlying t = some (.slice e)) (hi : P.info? e = some i)
    (b off n sCap c : Nat) (hs : a.eval s = .slice (some ⟨b, off, none⟩) n sCap) (hn : n ≤ sCap) (hx : a.eval x = .slice none 0 c)
    (h : wpList P ops Q rest (a.put o.dst (.slice (some ⟨b, off, none⟩) n sCap)) w) : wpList P ops Q (o :: rest) a w := by
  refine wpList_plain hgd fun K hK => ?_
  have hrun := run_append_room_src (P := P) (w := w) t t o.type e i ht hi b off n sCap (.slice none 0 c) 0 [] (Src.ofNil w ht c) (by omega) (by simp) (by simp)
  unfold Oper.wp
  simp [execOp, ho, resolve, invoke, builtin, hs, hx, hrun, Result.andThen]
  exact hK _ _ h

/-- Parameters and a secret in boxes, with what they lead to. -/
structure Owned (w Z : World) (x : Par) (cv sv : Value) (l : List Int) (gp gs : Nat) : Prop where
  box : BoxP Z gp x cv
  cs : Z.cell? ⟨gs, 0, none⟩ = some sv
  sl : SliceAt Z cv x.ch
  sz : SliceZ .i8 Z sv l
  bel : Below w.heap.size w Z
  lp : gp < Z.heap.size
  ls : gs < Z.heap.size
theorem Owned.below {w Z Z' : World} {x : Par} {cv sv : Value} {l : List Int} {gp gs : Nat} (h : Owned w Z x cv sv l gp gs) (hb : Below Z.heap.size Z Z') : Owned w Z' x cv sv l gp gs :=
  ⟨h.box.below hb h.lp, (below_at hb h.ls).trans h.cs, h.sl.below hb, h.sz.below hb, h.bel.trans (hb.mono h.bel.size), Nat.lt_of_lt_of_le h.lp hb.size, Nat.lt_of_lt_of_le h.ls hb.size⟩
theorem Owned.boxes {w : World} {x : Par} {cv sv : Value} {l : List Int} (hcv : SliceAt w cv x.ch) (hs : SliceZ .i8 w sv l) :
    Owned w ((w.alloc (.cells #[.int .i64 x.n, .int .u32 x.p, .int .i64 x.r, cv, .int .u32 x.sp, .int .i64 x.wt, .int .u32 x.er] 25)).alloc (.cells #[sv] 28)) x cv sv l w.heap.size (w.heap.size + 1) := by
  have hb : Below w.heap.size w ((w.alloc (.cells #[.int .i64 x.n, .int .u32 x.p, .int .i64 x.r, cv, .int .u32 x.sp, .int .i64 x.wt, .int .u32 x.er] 25)).alloc (.cells #[sv] 28)) := ((Below.refl _ _).alloc (Nat.le_refl _) _).alloc (by simp) _
  exact ⟨by constructor <;> simp [go_sem], by simp [go_sem], hcv.below hb, hs.below hb, hb, by simp; omega, by simp⟩

/-- A list of small integers in a new row, behind an append. -/
theorem i8_wf {w : World} {v : Value} {l : List Int} (h : SliceZ .i8 w v l) : ∀ q, q ∈ l → (Lit.int .i8 q).wf = true := by
  intro q hq
  obtain ⟨p, cap, _, _, _, h4⟩ := h
  obtain ⟨b, off, _, hr⟩ := h4 (by intro e; subst e; cases hq)
  exact hr.rng q hq

theorem addr_add (b off j : Nat) : (⟨b, off, none⟩ : Addr).add j = ⟨b, off + j, none⟩ := by unfold Addr.add; split <;> simp_all
theorem owns_new (W : World) (T : TypeId) (B g : Nat) (hB : B ≤ g) (hg : g = W.heap.size) : (W.alloc (.cells #[] T)).ownsRow B T 1 (.slice (some ⟨g, 0, none⟩) 0 0) 0 [] := by
  subst hg
  exact ⟨rfl, .inr ⟨_, 0, #[], rfl, hB, Blk.new W #[] T, Nat.le_refl _, by decide, rfl, rfl⟩⟩

theorem turnOk_eq (x : Par) (l : List Int) (k : Int) : turnOk mPrime x l k = turnOk rPrime x l k := by unfold turnOk; rw [okB_eq]
theorem turnList_eq (x : Par) (l : List Int) (k : Int) : turnList mPrime x l k = turnList rPrime x l k := by unfold turnList; rw [turnOk_eq]
theorem turnErr_eq (x : Par) (l : List Int) (k : Int) : turnErr mPrime x l k = turnErr rPrime x l k := by unfold turnErr; rw [turnOk_eq]

end Go.Proofs.YtjpcljnojipdnaaGreat
