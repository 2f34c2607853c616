/- The machine of abstract values: rules of the other operations, and of what they compute. -/
import Derived.Test.YtljfgdlgmdcmfaaGreatWvT
namespace Go.Proofs.YtljfgdlgmdcmfaaGreat.Wv
open Go.RowKit
set_option linter.unusedVariables false
set_option autoImplicit false

def sT0 (K : AV → Prop) (n : Nat) (o : Option (TypeId × Nat × List AV)) : Prop := ∃ te s l, o = some (te, s, l) ∧ K (if n = 0 then .e0 else .t n s l)
def sX1 (P : Program) (h : Hp) (T : TypeId) (x : AV) (K : AV → Prop) (z : Option Int) : Prop := ∃ i, z = some i ∧ sA K (idxA P h T x i)
def sX2 (P : Program) (T : TypeId) (x : AV) (K : AV → Prop) (z : Option Int) : Prop := ∃ i, z = some i ∧ sA K (indexA P T x i)

section
variable {P : Program} {p₀ : AV → Hp → Prop} {E : Operand → AV} {h : Hp} {d : Option Tmp} {t : TypeId} {p : String} {a : Array Edge} {g : Option (Nat × Bool)}
theorem r_slice {T : TypeId} {x : Operand} {lo hi : Option Operand} {K : AV → Prop} : rOp P ⟨d, .slice T x lo hi none, t, p, a, g⟩ E h K = sA K (sliceT P h T (E x) (lo.map E) (hi.map E)) := propext ⟨fun q => q.2, fun q => ⟨rfl, q⟩⟩
theorem q_slice {T : TypeId} {x : Operand} {lo hi : Option Operand} {K : AV → Prop} : cOp P p₀ ⟨d, .slice T x lo hi none, t, p, a, g⟩ E h K = rOp P ⟨d, .slice T x lo hi none, t, p, a, g⟩ E h K := Eq.trans rfl rfl
theorem w_slice {T : TypeId} {x : Operand} {lo hi : Option Operand} {K : AV → Hp → Prop} : wOp P p₀ ⟨d, .slice T x lo hi none, t, p, a, g⟩ E h K = sO K (sliceA P h T (E x) (lo.map E) (hi.map E)) := propext ⟨fun q => q.2, fun q => ⟨rfl, q⟩⟩
theorem r_indexAddr {T : TypeId} {x i : Operand} {K : AV → Prop} : rOp P ⟨d, .indexAddr T x i, t, p, a, g⟩ E h K = sX1 P h T (E x) K (intA (E i)) := propext ⟨fun ⟨z, r, q1, q2, q3⟩ => ⟨z, q1, r, q2, q3⟩, fun ⟨z, q1, r, q2, q3⟩ => ⟨z, r, q1, q2, q3⟩⟩
theorem q_indexAddr {T : TypeId} {x i : Operand} {K : AV → Prop} : cOp P p₀ ⟨d, .indexAddr T x i, t, p, a, g⟩ E h K = rOp P ⟨d, .indexAddr T x i, t, p, a, g⟩ E h K := Eq.trans rfl rfl
theorem w_indexAddr {T : TypeId} {x i : Operand} {K : AV → Hp → Prop} : wOp P p₀ ⟨d, .indexAddr T x i, t, p, a, g⟩ E h K = rOp P ⟨d, .indexAddr T x i, t, p, a, g⟩ E h (kR K h) := Eq.trans rfl rfl
theorem r_index {T : TypeId} {x i : Operand} {K : AV → Prop} : rOp P ⟨d, .index T x i, t, p, a, g⟩ E h K = sX2 P T (E x) K (intA (E i)) := propext ⟨fun ⟨z, r, q1, q2, q3⟩ => ⟨z, q1, r, q2, q3⟩, fun ⟨z, q1, r, q2, q3⟩ => ⟨z, r, q1, q2, q3⟩⟩
theorem q_index {T : TypeId} {x i : Operand} {K : AV → Prop} : cOp P p₀ ⟨d, .index T x i, t, p, a, g⟩ E h K = rOp P ⟨d, .index T x i, t, p, a, g⟩ E h K := Eq.trans rfl rfl
theorem w_index {T : TypeId} {x i : Operand} {K : AV → Hp → Prop} : wOp P p₀ ⟨d, .index T x i, t, p, a, g⟩ E h K = rOp P ⟨d, .index T x i, t, p, a, g⟩ E h (kR K h) := Eq.trans rfl rfl
theorem r_func {f : Fn} {l1 l2 : List Operand} {K : AV → Prop} : rOp P ⟨d, .makeFunc f l1.toArray l2.toArray, t, p, a, g⟩ E h K = K (.fn f (l1.map E) (l2.map E)) := Eq.trans rfl rfl
theorem q_func {f : Fn} {l1 l2 : List Operand} {K : AV → Prop} : cOp P p₀ ⟨d, .makeFunc f l1.toArray l2.toArray, t, p, a, g⟩ E h K = K (.fn f (l1.map E) (l2.map E)) := Eq.trans rfl rfl
theorem w_func {f : Fn} {l1 l2 : List Operand} {K : AV → Hp → Prop} : wOp P p₀ ⟨d, .makeFunc f l1.toArray l2.toArray, t, p, a, g⟩ E h K = K (.fn f (l1.map E) (l2.map E)) h := Eq.trans rfl rfl
theorem len_eq {x : Operand} {T : TypeId} {K : AV → Prop} : rCall P ⟨.builtin .len, #[x], #[T]⟩ E h K = sL K (lenA P h T (E x)) := propext ⟨fun ⟨_, n, q1, _, q2⟩ => ⟨n, q1, q2⟩, fun ⟨n, q1, q2⟩ => ⟨rfl, n, q1, rfl, q2⟩⟩
theorem q_len {x : Operand} {T : TypeId} {K : AV → Prop} : cOp P p₀ ⟨d, .call ⟨.builtin .len, #[x], #[T]⟩, t, p, a, g⟩ E h K = sL K (lenA P h T (E x)) := len_eq
theorem w_len {x : Operand} {T : TypeId} {K : AV → Hp → Prop} : wOp P p₀ ⟨d, .call ⟨.builtin .len, #[x], #[T]⟩, t, p, a, g⟩ E h K = sL (kR K h) (lenA P h T (E x)) := len_eq (K := kR K h)
theorem q_max {l : List Operand} {tt : Array TypeId} {K : AV → Prop} : cOp P p₀ ⟨d, .call ⟨.builtin .max, l.toArray, tt⟩, t, p, a, g⟩ E h K = sA K (mmA true (l.map E)) := Eq.trans rfl rfl
theorem w_max {l : List Operand} {tt : Array TypeId} {K : AV → Hp → Prop} : wOp P p₀ ⟨d, .call ⟨.builtin .max, l.toArray, tt⟩, t, p, a, g⟩ E h K = sA (kR K h) (mmA true (l.map E)) := Eq.trans rfl rfl
theorem q_min {l : List Operand} {tt : Array TypeId} {K : AV → Prop} : cOp P p₀ ⟨d, .call ⟨.builtin .min, l.toArray, tt⟩, t, p, a, g⟩ E h K = sA K (mmA false (l.map E)) := Eq.trans rfl rfl
theorem w_min {l : List Operand} {tt : Array TypeId} {K : AV → Hp → Prop} : wOp P p₀ ⟨d, .call ⟨.builtin .min, l.toArray, tt⟩, t, p, a, g⟩ E h K = sA (kR K h) (mmA false (l.map E)) := Eq.trans rfl rfl
theorem w_append {x y : Operand} {T U : TypeId} {K : AV → Hp → Prop} : wOp P p₀ ⟨d, .call ⟨.builtin .append, #[x, y], #[T, U]⟩, t, p, a, g⟩ E h K = sO K (appendA P h T U (E x) (E y)) := propext ⟨fun ⟨_, _, q⟩ => q, fun q => ⟨rfl, rfl, q⟩⟩
theorem w_copy {x y : Operand} {T U : TypeId} {K : AV → Hp → Prop} : wOp P p₀ ⟨d, .call ⟨.builtin .copy, #[x, y], #[T, U]⟩, t, p, a, g⟩ E h K = sO K (copyA P h T U (E x) (E y)) := propext ⟨fun ⟨_, _, q⟩ => q, fun q => ⟨rfl, rfl, q⟩⟩
theorem w_call {f : Operand} {l : List Operand} {tt : Array TypeId} {K : AV → Hp → Prop} : wOp P p₀ ⟨d, .call ⟨.value f, l.toArray, tt⟩, t, p, a, g⟩ E h K = sCall P p₀ K h (E f) (l.map E) := Eq.trans rfl rfl
theorem q_call {f : Operand} {l : List Operand} {tt : Array TypeId} {K : AV → Prop} : cOp P p₀ ⟨d, .call ⟨.value f, l.toArray, tt⟩, t, p, a, g⟩ E h K = sCalm P p₀ K h (E f) (l.map E) := Eq.trans rfl rfl
theorem q_lit {T : TypeId} {n : Nat} {l : List (Nat × Operand)} {K : AV → Prop} : cOp P p₀ ⟨d, .buildSlice T n l.toArray, t, p, a, g⟩ E h K = sT0 K n (litA P h T n (l.map fun p => (p.1, E p.2))) := Eq.trans rfl rfl
theorem q_append {x y : Operand} {T U : TypeId} {K : AV → Prop} : cOp P p₀ ⟨d, .call ⟨.builtin .append, #[x, y], #[T, U]⟩, t, p, a, g⟩ E h K = sA K (appT P h T U (E x) (E y)) := propext ⟨fun ⟨_, _, q⟩ => q, fun q => ⟨rfl, rfl, q⟩⟩
theorem w_lit {T : TypeId} {n : Nat} {l : List (Nat × Operand)} {K : AV → Hp → Prop} : wOp P p₀ ⟨d, .buildSlice T n l.toArray, t, p, a, g⟩ E h K = sS K h n (litA P h T n (l.map fun p => (p.1, E p.2))) := Eq.trans rfl rfl
theorem w_alloc {T : TypeId} {K : AV → Hp → Prop} : wOp P p₀ ⟨d, .alloc T, t, p, a, g⟩ E h K = sZ K h (zeroP P T) := Eq.trans rfl rfl
theorem w_box {T : TypeId} {x : Operand} {K : AV → Hp → Prop} : wOp P p₀ ⟨d, .box T x, t, p, a, g⟩ E h K = sB K h (cellsA h (E x)) := Eq.trans rfl rfl
theorem w_store {T : TypeId} {x y : Operand} {K : AV → Hp → Prop} : wOp P p₀ ⟨d, .store T x y, t, p, a, g⟩ E h K = sH K (storeA P h T (E x) (E y)) := Eq.trans rfl rfl
theorem w_make {T : TypeId} {x y : Operand} {K : AV → Hp → Prop} : wOp P p₀ ⟨d, .makeSlice T x y, t, p, a, g⟩ E h K = sI P T K h (intA (E x)) (intA (E y)) := Eq.trans rfl rfl
end

section
variable {P : Program} {p₀ : AV → Hp → Prop} {N : Nat} {L : List Nat} {ks : List (Nat × Nat)}
theorem some_ex {α : Type} {x : α} {K : α → Prop} : (∃ r, some x = some r ∧ K r) = K x := propext ⟨fun ⟨r, h1, h2⟩ => by injection h1 with h1; subst h1; exact h2, fun h => ⟨x, rfl, h⟩⟩
theorem sV_some {K : AV → Prop} {v : Value} : sV K (some v) = K (.v v) := some_ex (K := fun r => K (.v r))
theorem sA_some {K : AV → Prop} {v : AV} : sA K (some v) = K v := some_ex
theorem sG_some {K : AV → Prop} {l : List AV} : sG K (some l) = K (.g l) := some_ex (K := fun r => K (.g r))
theorem sO_some {K : AV → Hp → Prop} {v : AV} {h : Hp} : sO K (some (v, h)) = K v h := propext ⟨fun ⟨r, h', h1, h2⟩ => by injection h1 with h1; injection h1 with e1 e2; subst e1 e2; exact h2, fun q => ⟨v, h, rfl, q⟩⟩
theorem sE_some {K : AV → Hp → Prop} {v : AV} {h : Hp} : sE K (some (v, h)) = K v h := sO_some
theorem sH_some {K : AV → Hp → Prop} {h : Hp} : sH K (some h) = K .none h := some_ex (K := fun r => K .none r)
theorem sZ_some {K : AV → Hp → Prop} {h : Hp} {z : Value} : sZ K h (some z) = K (.ptr h.length 0) (h ++ [some (.blk (vcells z))]) := propext ⟨fun ⟨r, h1, h2⟩ => by injection h1 with h1; subst h1; exact h2, fun q => ⟨z, rfl, q⟩⟩
theorem sB_some {K : AV → Hp → Prop} {h : Hp} {z : List AV} : sB K h (some z) = K (.ptr h.length 0) (h ++ [some (.blk z)]) := propext ⟨fun ⟨r, h1, h2⟩ => by injection h1 with h1; subst h1; exact h2, fun q => ⟨z, rfl, q⟩⟩
theorem sS_some {K : AV → Hp → Prop} {h : Hp} {n : Nat} {te : TypeId} {s : Nat} {l : List AV} : sS K h n (some (te, s, l)) = K (.own h.length n) (h ++ [some (.arr te s l 0)]) := propext ⟨fun ⟨_, _, _, h1, h2⟩ => by injection h1 with h1; injection h1 with e1 h1; injection h1 with e2 e3; subst e1 e2 e3; exact h2, fun q => ⟨te, s, l, rfl, q⟩⟩
theorem sT_some {K : AV → Prop} {n : Nat} {te : TypeId} {s : Nat} {l : List AV} : sT K n (some (te, s, l)) = K (.t n s l) := propext ⟨fun ⟨_, _, _, h1, h2⟩ => by injection h1 with h1; injection h1 with e1 h1; injection h1 with e2 e3; subst e1 e2 e3; exact h2, fun q => ⟨te, s, l, rfl, q⟩⟩
theorem sT0_some {K : AV → Prop} {n : Nat} {te : TypeId} {s : Nat} {l : List AV} : sT0 K n (some (te, s, l)) = K (if n = 0 then .e0 else .t n s l) := propext ⟨fun ⟨_, _, _, h1, h2⟩ => by injection h1 with h1; injection h1 with e1 h1; injection h1 with e2 e3; subst e1 e2 e3; exact h2, fun q => ⟨te, s, l, rfl, q⟩⟩
theorem sI_some {T : TypeId} {K : AV → Hp → Prop} {h : Hp} {zl zc : Int} : sI P T K h (some zl) (some zc) = sS K h zl.toNat (makeA P T zl zc) := propext ⟨fun ⟨_, _, te, s, l, h1, h2, h3, h4⟩ => by injection h1 with h1; injection h2 with h2; subst h1 h2; exact ⟨te, s, l, h3, h4⟩, fun ⟨te, s, l, h3, h4⟩ => ⟨_, _, te, s, l, rfl, rfl, h3, h4⟩⟩
theorem sX1_some {h : Hp} {T : TypeId} {x : AV} {K : AV → Prop} {i : Int} : sX1 P h T x K (some i) = sA K (idxA P h T x i) := some_ex (K := fun i => sA K (idxA P h T x i))
theorem sX2_some {T : TypeId} {x : AV} {K : AV → Prop} {i : Int} : sX2 P T x K (some i) = sA K (indexA P T x i) := some_ex (K := fun i => sA K (indexA P T x i))
theorem sN_some {K : AV → Prop} {x : AV} : sN K x (some false) = K x := propext ⟨fun q => q.2, fun q => ⟨rfl, q⟩⟩
theorem sL_some {K : AV → Prop} {n : Nat} : sL K (some n) = K (.v (.int .i64 n)) := some_ex (K := fun n : Nat => K (.v (.int .i64 n)))
theorem sP_t {K : AV → Prop} {x y : AV} : sP K (.v (.bool true)) x y = K x := propext ⟨fun ⟨t, h1, h2⟩ => by cases h1; exact h2, fun q => ⟨true, rfl, q⟩⟩
theorem sP_f {K : AV → Prop} {x y : AV} : sP K (.v (.bool false)) x y = K y := propext ⟨fun ⟨t, h1, h2⟩ => by cases h1; exact h2, fun q => ⟨false, rfl, q⟩⟩
theorem sP_and {K : AV → Prop} {b c : Bool} : sP K (.v (.bool b)) (.v (.bool c)) (.v (.bool false)) = K (.v (.bool (b && c))) := propext ⟨fun ⟨t, h1, h2⟩ => by cases h1; cases b <;> simpa using h2, fun q => ⟨b, rfl, by cases b <;> simpa using q⟩⟩
theorem sP_or {K : AV → Prop} {b c : Bool} : sP K (.v (.bool b)) (.v (.bool true)) (.v (.bool c)) = K (.v (.bool (b || c))) := propext ⟨fun ⟨t, h1, h2⟩ => by cases h1; cases b <;> simpa using h2, fun q => ⟨b, rfl, by cases b <;> simpa using q⟩⟩
theorem sC_t {a b : Code} {Q : PostW} {e : Ev} {h : Hp} : sC P N L ks a b Q e h (.v (.bool true)) = wCode P N L ks a Q e h := propext ⟨fun ⟨t, h1, h2⟩ => by cases h1; exact h2, fun q => ⟨true, rfl, q⟩⟩
theorem sC_f {a b : Code} {Q : PostW} {e : Ev} {h : Hp} : sC P N L ks a b Q e h (.v (.bool false)) = wCode P N L ks b Q e h := propext ⟨fun ⟨t, h1, h2⟩ => by cases h1; exact h2, fun q => ⟨false, rfl, q⟩⟩
theorem sW_tt {all : List Oper} {o : Oper} {r : List Oper} {d : Option Tmp} {e : Ev} {h : Hp} {K : Ev → Hp → Prop} : sW P p₀ all o r d e h K true (.v (.bool true)) = wOp P p₀ o (opnd e) h (kO P p₀ all r d e K) := propext ⟨fun ⟨t, h1, h2⟩ => by injection h1 with h1; subst h1; simpa using h2, fun q => ⟨_, rfl, by simpa using q⟩⟩
theorem sW_tf {all : List Oper} {o : Oper} {r : List Oper} {d : Option Tmp} {e : Ev} {h : Hp} {K : Ev → Hp → Prop} : sW P p₀ all o r d e h K true (.v (.bool false)) = wOps P p₀ all r (putE e d (.v undef)) h K := propext ⟨fun ⟨t, h1, h2⟩ => by injection h1 with h1; subst h1; simpa using h2, fun q => ⟨_, rfl, by simpa using q⟩⟩
theorem sW_ft {all : List Oper} {o : Oper} {r : List Oper} {d : Option Tmp} {e : Ev} {h : Hp} {K : Ev → Hp → Prop} : sW P p₀ all o r d e h K false (.v (.bool true)) = wOps P p₀ all r (putE e d (.v undef)) h K := propext ⟨fun ⟨t, h1, h2⟩ => by injection h1 with h1; subst h1; simpa using h2, fun q => ⟨_, rfl, by simpa using q⟩⟩
theorem sW_ff {all : List Oper} {o : Oper} {r : List Oper} {d : Option Tmp} {e : Ev} {h : Hp} {K : Ev → Hp → Prop} : sW P p₀ all o r d e h K false (.v (.bool false)) = wOp P p₀ o (opnd e) h (kO P p₀ all r d e K) := propext ⟨fun ⟨t, h1, h2⟩ => by injection h1 with h1; subst h1; simpa using h2, fun q => ⟨_, rfl, by simpa using q⟩⟩
theorem sW_dt00 {all : List Oper} {o : Oper} {r : List Oper} {d : Option Tmp} {e : Ev} {h : Hp} {K : Ev → Hp → Prop} {q : Prop} [Decidable q] (hq : ¬ q) : sW P p₀ all o r d e h K true (.v (.bool (decide q))) = wOps P p₀ all r (putE e d (.v undef)) h K := by rw [decide_eq_false hq]; exact sW_tf
theorem sW_dt01 {all : List Oper} {o : Oper} {r : List Oper} {d : Option Tmp} {e : Ev} {h : Hp} {K : Ev → Hp → Prop} {q : Prop} [Decidable q] (hq : q) : sW P p₀ all o r d e h K true (.v (.bool (decide q))) = wOp P p₀ o (opnd e) h (kO P p₀ all r d e K) := by rw [decide_eq_true hq]; exact sW_tt
theorem sW_dt10 {all : List Oper} {o : Oper} {r : List Oper} {d : Option Tmp} {e : Ev} {h : Hp} {K : Ev → Hp → Prop} {q : Prop} [Decidable q] (hq : ¬ q) : sW P p₀ all o r d e h K true (.v (.bool (!decide q))) = wOp P p₀ o (opnd e) h (kO P p₀ all r d e K) := by rw [decide_eq_false hq]; exact sW_tt
theorem sW_dt11 {all : List Oper} {o : Oper} {r : List Oper} {d : Option Tmp} {e : Ev} {h : Hp} {K : Ev → Hp → Prop} {q : Prop} [Decidable q] (hq : q) : sW P p₀ all o r d e h K true (.v (.bool (!decide q))) = wOps P p₀ all r (putE e d (.v undef)) h K := by rw [decide_eq_true hq]; exact sW_tf
theorem sW_df00 {all : List Oper} {o : Oper} {r : List Oper} {d : Option Tmp} {e : Ev} {h : Hp} {K : Ev → Hp → Prop} {q : Prop} [Decidable q] (hq : ¬ q) : sW P p₀ all o r d e h K false (.v (.bool (decide q))) = wOp P p₀ o (opnd e) h (kO P p₀ all r d e K) := by rw [decide_eq_false hq]; exact sW_ff
theorem sW_df01 {all : List Oper} {o : Oper} {r : List Oper} {d : Option Tmp} {e : Ev} {h : Hp} {K : Ev → Hp → Prop} {q : Prop} [Decidable q] (hq : q) : sW P p₀ all o r d e h K false (.v (.bool (decide q))) = wOps P p₀ all r (putE e d (.v undef)) h K := by rw [decide_eq_true hq]; exact sW_ft
theorem sW_df10 {all : List Oper} {o : Oper} {r : List Oper} {d : Option Tmp} {e : Ev} {h : Hp} {K : Ev → Hp → Prop} {q : Prop} [Decidable q] (hq : ¬ q) : sW P p₀ all o r d e h K false (.v (.bool (!decide q))) = wOps P p₀ all r (putE e d (.v undef)) h K := by rw [decide_eq_false hq]; exact sW_ft
theorem sW_df11 {all : List Oper} {o : Oper} {r : List Oper} {d : Option Tmp} {e : Ev} {h : Hp} {K : Ev → Hp → Prop} {q : Prop} [Decidable q] (hq : q) : sW P p₀ all o r d e h K false (.v (.bool (!decide q))) = wOp P p₀ o (opnd e) h (kO P p₀ all r d e K) := by rw [decide_eq_true hq]; exact sW_ff
theorem sW_un {all : List Oper} {o : Oper} {r : List Oper} {d : Option Tmp} {e : Ev} {h : Hp} {K : Ev → Hp → Prop} {w : Bool} : sW P p₀ all o r d e h K w (.v undef) = wOps P p₀ all r (putE e d (.v undef)) h K := propext ⟨fun ⟨t, h1, h2⟩ => by injection h1 with h1; subst h1; simpa using h2, fun q => ⟨_, rfl, by simpa using q⟩⟩
theorem sY_un {all : List Oper} {o : Oper} {r : List Oper} {d : Option Tmp} {e : Ev} {h : Hp} {al : List (Tmp × Value)} {K : Ev → List (Tmp × Value) → Prop} {w : Bool} : sY P p₀ all h o r d e al K w (.v undef) = wHead P p₀ all h r (putE e d (.v undef)) al K := propext ⟨fun ⟨t, h1, h2⟩ => by injection h1 with h1; subst h1; simpa using h2, fun q => ⟨_, rfl, by simpa using q⟩⟩
theorem sY_tt {all : List Oper} {o : Oper} {r : List Oper} {d : Option Tmp} {e : Ev} {h : Hp} {al : List (Tmp × Value)} {K : Ev → List (Tmp × Value) → Prop} : sY P p₀ all h o r d e al K true (.v (.bool true)) = cOp P p₀ o (opnd e) h (kH P p₀ all h r d e al K) := propext ⟨fun ⟨t, h1, h2⟩ => by injection h1 with h1; subst h1; simpa using h2, fun q => ⟨_, rfl, by simpa using q⟩⟩
theorem sY_tf {all : List Oper} {o : Oper} {r : List Oper} {d : Option Tmp} {e : Ev} {h : Hp} {al : List (Tmp × Value)} {K : Ev → List (Tmp × Value) → Prop} : sY P p₀ all h o r d e al K true (.v (.bool false)) = wHead P p₀ all h r (putE e d (.v undef)) al K := propext ⟨fun ⟨t, h1, h2⟩ => by injection h1 with h1; subst h1; simpa using h2, fun q => ⟨_, rfl, by simpa using q⟩⟩
theorem sY_ft {all : List Oper} {o : Oper} {r : List Oper} {d : Option Tmp} {e : Ev} {h : Hp} {al : List (Tmp × Value)} {K : Ev → List (Tmp × Value) → Prop} : sY P p₀ all h o r d e al K false (.v (.bool true)) = wHead P p₀ all h r (putE e d (.v undef)) al K := propext ⟨fun ⟨t, h1, h2⟩ => by injection h1 with h1; subst h1; simpa using h2, fun q => ⟨_, rfl, by simpa using q⟩⟩
theorem sY_ff {all : List Oper} {o : Oper} {r : List Oper} {d : Option Tmp} {e : Ev} {h : Hp} {al : List (Tmp × Value)} {K : Ev → List (Tmp × Value) → Prop} : sY P p₀ all h o r d e al K false (.v (.bool false)) = cOp P p₀ o (opnd e) h (kH P p₀ all h r d e al K) := propext ⟨fun ⟨t, h1, h2⟩ => by injection h1 with h1; subst h1; simpa using h2, fun q => ⟨_, rfl, by simpa using q⟩⟩
theorem sY_dt00 {all : List Oper} {o : Oper} {r : List Oper} {d : Option Tmp} {e : Ev} {h : Hp} {al : List (Tmp × Value)} {K : Ev → List (Tmp × Value) → Prop} {q : Prop} [Decidable q] (hq : ¬ q) : sY P p₀ all h o r d e al K true (.v (.bool (decide q))) = wHead P p₀ all h r (putE e d (.v undef)) al K := by rw [decide_eq_false hq]; exact sY_tf
theorem sY_dt01 {all : List Oper} {o : Oper} {r : List Oper} {d : Option Tmp} {e : Ev} {h : Hp} {al : List (Tmp × Value)} {K : Ev → List (Tmp × Value) → Prop} {q : Prop} [Decidable q] (hq : q) : sY P p₀ all h o r d e al K true (.v (.bool (decide q))) = cOp P p₀ o (opnd e) h (kH P p₀ all h r d e al K) := by rw [decide_eq_true hq]; exact sY_tt
theorem sY_dt10 {all : List Oper} {o : Oper} {r : List Oper} {d : Option Tmp} {e : Ev} {h : Hp} {al : List (Tmp × Value)} {K : Ev → List (Tmp × Value) → Prop} {q : Prop} [Decidable q] (hq : ¬ q) : sY P p₀ all h o r d e al K true (.v (.bool (!decide q))) = cOp P p₀ o (opnd e) h (kH P p₀ all h r d e al K) := by rw [decide_eq_false hq]; exact sY_tt
theorem sY_dt11 {all : List Oper} {o : Oper} {r : List Oper} {d : Option Tmp} {e : Ev} {h : Hp} {al : List (Tmp × Value)} {K : Ev → List (Tmp × Value) → Prop} {q : Prop} [Decidable q] (hq : q) : sY P p₀ all h o r d e al K true (.v (.bool (!decide q))) = wHead P p₀ all h r (putE e d (.v undef)) al K := by rw [decide_eq_true hq]; exact sY_tf
theorem sY_df00 {all : List Oper} {o : Oper} {r : List Oper} {d : Option Tmp} {e : Ev} {h : Hp} {al : List (Tmp × Value)} {K : Ev → List (Tmp × Value) → Prop} {q : Prop} [Decidable q] (hq : ¬ q) : sY P p₀ all h o r d e al K false (.v (.bool (decide q))) = cOp P p₀ o (opnd e) h (kH P p₀ all h r d e al K) := by rw [decide_eq_false hq]; exact sY_ff
theorem sY_df01 {all : List Oper} {o : Oper} {r : List Oper} {d : Option Tmp} {e : Ev} {h : Hp} {al : List (Tmp × Value)} {K : Ev → List (Tmp × Value) → Prop} {q : Prop} [Decidable q] (hq : q) : sY P p₀ all h o r d e al K false (.v (.bool (decide q))) = wHead P p₀ all h r (putE e d (.v undef)) al K := by rw [decide_eq_true hq]; exact sY_ft
theorem sY_df10 {all : List Oper} {o : Oper} {r : List Oper} {d : Option Tmp} {e : Ev} {h : Hp} {al : List (Tmp × Value)} {K : Ev → List (Tmp × Value) → Prop} {q : Prop} [Decidable q] (hq : ¬ q) : sY P p₀ all h o r d e al K false (.v (.bool (!decide q))) = wHead P p₀ all h r (putE e d (.v undef)) al K := by rw [decide_eq_false hq]; exact sY_ft
theorem sY_df11 {all : List Oper} {o : Oper} {r : List Oper} {d : Option Tmp} {e : Ev} {h : Hp} {al : List (Tmp × Value)} {K : Ev → List (Tmp × Value) → Prop} {q : Prop} [Decidable q] (hq : q) : sY P p₀ all h o r d e al K false (.v (.bool (!decide q))) = cOp P p₀ o (opnd e) h (kH P p₀ all h r d e al K) := by rw [decide_eq_true hq]; exact sY_ff
theorem sP_d00 {K : AV → Prop} {x y : AV} {q : Prop} [Decidable q] (hq : ¬ q) : sP K (.v (.bool (decide q))) x y = K y := by rw [decide_eq_false hq]; exact sP_f
theorem sP_d01 {K : AV → Prop} {x y : AV} {q : Prop} [Decidable q] (hq : q) : sP K (.v (.bool (decide q))) x y = K x := by rw [decide_eq_true hq]; exact sP_t
theorem sP_d10 {K : AV → Prop} {x y : AV} {q : Prop} [Decidable q] (hq : ¬ q) : sP K (.v (.bool (!decide q))) x y = K x := by rw [decide_eq_false hq]; exact sP_t
theorem sP_d11 {K : AV → Prop} {x y : AV} {q : Prop} [Decidable q] (hq : q) : sP K (.v (.bool (!decide q))) x y = K y := by rw [decide_eq_true hq]; exact sP_f
theorem sF_some {Q : AV → Hp → Prop} {h : Hp} {r : AV} : sF Q h (some r) = sE Q (close3 h r) := some_ex (K := fun r => sE Q (close3 h r))
theorem finP0 {rs : Array ResultVar} {Q p : AV → Hp → Prop} {e : Ev} {h : Hp} : FinP P rs Q p .normal e h = sF Q h (resA P h e rs) := propext ⟨fun ⟨r, r', h', h1, h2, h3⟩ => ⟨r, h1, r', h', h2, h3⟩, fun ⟨r, h1, r', h', h2, h3⟩ => ⟨r, r', h', h1, h2, h3⟩⟩
theorem finP1 {rs : Array ResultVar} {Q p : AV → Hp → Prop} {e : Ev} {h : Hp} : FinP P rs Q p .ret e h = sF Q h (resA P h e rs) := finP0 (p := p)
theorem finP2 {rs : Array ResultVar} {Q p : AV → Hp → Prop} {a : AV} {e : Ev} {h : Hp} : FinP P rs Q p (.panic a) e h = sE p (close3 h a) := propext ⟨fun ⟨r', h', h2, h3⟩ => ⟨r', h', h2, h3⟩, fun ⟨r', h', h2, h3⟩ => ⟨r', h', h2, h3⟩⟩
theorem fin0 {rs : Array ResultVar} {Q : AV → Hp → Prop} {e : Ev} {h : Hp} : Fin P rs Q .normal e h = sF Q h (resA P h e rs) := propext ⟨fun ⟨r, r', h', h1, h2, h3⟩ => ⟨r, h1, r', h', h2, h3⟩, fun ⟨r, h1, r', h', h2, h3⟩ => ⟨r, r', h', h1, h2, h3⟩⟩
theorem fin1 {rs : Array ResultVar} {Q : AV → Hp → Prop} {e : Ev} {h : Hp} : Fin P rs Q .ret e h = sF Q h (resA P h e rs) := fin0
def resB : Option (List AV) → Option AV
  | some [a] => some a
  | some l => some (.tup l)
  | none => none
theorem resA_eq {rs : List ResultVar} {e : Ev} {h : Hp} : resA P h e rs.toArray = resB (resL P h e rs) := by
  show (match resL P h e rs with | some [a] => some a | some l => some (.tup l) | none => none) = _
  cases resL P h e rs with
  | none => rfl
  | some l => match l with
    | [] => rfl
    | [_] => rfl
    | _ :: _ :: _ => rfl
theorem resB1 {a : AV} : resB (some [a]) = some a := Eq.trans rfl rfl
theorem resB0 : resB (some []) = some (.tup []) := Eq.trans rfl rfl
theorem resB2 {a b : AV} {l : List AV} : resB (some (a :: b :: l)) = some (.tup (a :: b :: l)) := Eq.trans rfl rfl
theorem resL_nil {e : Ev} {h : Hp} : resL P h e [] = some [] := Eq.trans rfl rfl
theorem resL_tmp {e : Ev} {h : Hp} {t : Tmp} {r : List ResultVar} : resL P h e (.tmp t :: r) = (resL P h e r).map (fun l => getE e t :: l) := Eq.trans rfl rfl
def resC : Option AV → Option (List AV) → Option (List AV)
  | some a, some l => some (a :: l)
  | _, _ => none
theorem resC_some {a : AV} {l : List AV} : resC (some a) (some l) = some (a :: l) := Eq.trans rfl rfl
theorem yes_c {a b : Code} {Q : PostW} {e : Ev} {h : Hp} {q : Prop} [Decidable q] (hq : q) : sC P N L ks a b Q e h (.v (.bool (decide q))) = wCode P N L ks a Q e h := by rw [decide_eq_true hq]; exact sC_t
theorem no_c {a b : Code} {Q : PostW} {e : Ev} {h : Hp} {q : Prop} [Decidable q] (hq : ¬ q) : sC P N L ks a b Q e h (.v (.bool (decide q))) = wCode P N L ks b Q e h := by rw [decide_eq_false hq]; exact sC_f
theorem yes_n {a b : Code} {Q : PostW} {e : Ev} {h : Hp} {q : Prop} [Decidable q] (hq : q) : sC P N L ks a b Q e h (.v (.bool (!decide q))) = wCode P N L ks b Q e h := by rw [decide_eq_true hq]; exact sC_f
theorem no_n {a b : Code} {Q : PostW} {e : Ev} {h : Hp} {q : Prop} [Decidable q] (hq : ¬ q) : sC P N L ks a b Q e h (.v (.bool (!decide q))) = wCode P N L ks a Q e h := by rw [decide_eq_false hq]; exact sC_t

theorem gGet_some {e : Ev} {d : Tmp} : gGet e (some d) = getE e d := Eq.trans rfl rfl
theorem put_some {e : Ev} {d : Tmp} {a : AV} : putE e (some d) a = (d, a) :: e := Eq.trans rfl rfl
theorem put_none {e : Ev} {a : AV} : putE e none a = e := Eq.trans rfl rfl
theorem get_nil {d : Tmp} : getE [] d = .none := Eq.trans rfl rfl
theorem get_cons {k d : Tmp} {a : AV} {r : Ev} : getE ((k, a) :: r) d = if k = d then a else getE r d := Eq.trans rfl rfl
theorem op_tmp {e : Ev} {d : Tmp} : opnd e (.tmp d) = getE e d := Eq.trans rfl rfl
theorem op_const {e : Ev} {v : Value} : opnd e (.const v) = .v v := Eq.trans rfl rfl
theorem op_func {e : Ev} {f : FuncId} : opnd e (.func f) = .fn (.func f) [] [] := Eq.trans rfl rfl
theorem op_global {e : Ev} {g : Nat} : opnd e (.global g) = .v (.pointer (some ⟨g, 0, none⟩)) := Eq.trans rfl rfl
theorem keep_nil {e : Ev} : keepE [] e = [] := Eq.trans rfl rfl
theorem keep_cons {e : Ev} {d : Nat} {L : List Nat} : keepE (d :: L) e = (d, getE e d) :: keepE L e := Eq.trans rfl rfl
theorem kof_cons {i k d : Nat} {r : List (Nat × Nat)} : kOf ((i, k) :: r) d = if i = d then k else kOf r d := Eq.trans rfl rfl
theorem kof_nil {d : Nat} : kOf [] d = 0 := Eq.trans rfl rfl
theorem arr_list {α : Type} {l : List α} : l.toArray.toList = l := Eq.trans rfl rfl
theorem arg_nil {k : Nat} : argE k [] = [] := Eq.trans rfl rfl
theorem arg_cons {k : Nat} {a : AV} {r : List AV} : argE k (a :: r) = (k, a) :: argE (k + 1) r := Eq.trans rfl rfl
theorem al_nil {n : Nat} {e : Ev} : allocEnv n [] e = e := Eq.trans rfl rfl
theorem al_cons {n : Nat} {e : Ev} {d : Tmp} {z : Value} {r : List (Tmp × Value)} : allocEnv n ((d, z) :: r) e = (d, .ptr n 0) :: allocEnv (n + 1) r e := Eq.trans rfl rfl
theorem blkOf_eq {d : Tmp} {z : Value} : blkOf (d, z) = some (.blk (vcells z)) := Eq.trans rfl rfl

theorem int_int {k : IntKind} {z : Int} : intA (.v (.int k z)) = some z := Eq.trans rfl rfl
theorem bin_int {h : Hp} {op : BinOp} {T : TypeId} {k k' : IntKind} {x y : Int} : binA P h op T (.v (.int k x)) (.v (.int k' y)) = binV op (.int k x) (.int k' y) := Eq.trans rfl rfl
theorem bin_str {h : Hp} {op : BinOp} {T : TypeId} {x y : ByteArray} : binA P h op T (.v (.string x)) (.v (.string y)) = binV op (.string x) (.string y) := Eq.trans rfl rfl
theorem eq_eql {b : Bool} : eqOp .eql b = some (.bool b) := Eq.trans rfl rfl
theorem eq_neq {b : Bool} : eqOp .neq b = some (.bool (!b)) := Eq.trans rfl rfl
theorem b_add {k : IntKind} {x y : Int} : binV .add (.int k x) (.int k y) = some (.int k (k.wrap (x + y))) := if_pos rfl
theorem b_sub {k : IntKind} {x y : Int} : binV .sub (.int k x) (.int k y) = some (.int k (k.wrap (x - y))) := if_pos rfl
theorem b_mul {k : IntKind} {x y : Int} : binV .mul (.int k x) (.int k y) = some (.int k (k.wrap (x * y))) := if_pos rfl
theorem b_quo {k : IntKind} {x y : Int} (hy : y ≠ 0) : binV .quo (.int k x) (.int k y) = some (.int k (k.wrap (x.tdiv y))) := if_pos ⟨rfl, hy⟩
theorem b_rem {k : IntKind} {x y : Int} (hy : y ≠ 0) : binV .rem (.int k x) (.int k y) = some (.int k (x.tmod y)) := if_pos ⟨rfl, hy⟩
theorem b_shl {k k' : IntKind} {x y : Int} (hy : 0 ≤ y) : binV .shl (.int k x) (.int k' y) = some (.int k (k.wrap (x * 2 ^ (min y.toNat k.bits)))) := if_pos hy
theorem b_shr {k k' : IntKind} {x y : Int} (hy : 0 ≤ y) : binV .shr (.int k x) (.int k' y) = some (.int k (x.fdiv (2 ^ (min y.toNat k.bits)))) := if_pos hy
theorem b_and {k : IntKind} {x y : Int} : binV .and (.int k x) (.int k y) = some (.int k (k.wrap (BitVec.ofInt k.bits x &&& BitVec.ofInt k.bits y).toNat)) := if_pos rfl
theorem b_or {k : IntKind} {x y : Int} : binV .or (.int k x) (.int k y) = some (.int k (k.wrap (BitVec.ofInt k.bits x ||| BitVec.ofInt k.bits y).toNat)) := if_pos rfl
theorem b_xor {k : IntKind} {x y : Int} : binV .xor (.int k x) (.int k y) = some (.int k (k.wrap (BitVec.ofInt k.bits x ^^^ BitVec.ofInt k.bits y).toNat)) := if_pos rfl
theorem b_eql {k : IntKind} {x y : Int} : binV .eql (.int k x) (.int k y) = some (.bool (decide (x = y))) := if_pos rfl
theorem b_neq {k : IntKind} {x y : Int} : binV .neq (.int k x) (.int k y) = some (.bool (!decide (x = y))) := if_pos rfl
theorem b_lss {k : IntKind} {x y : Int} : binV .lss (.int k x) (.int k y) = some (.bool (decide (x < y))) := if_pos rfl
theorem b_leq {k : IntKind} {x y : Int} : binV .leq (.int k x) (.int k y) = some (.bool (decide (x ≤ y))) := if_pos rfl
theorem b_gtr {k : IntKind} {x y : Int} : binV .gtr (.int k x) (.int k y) = some (.bool (decide (y < x))) := if_pos rfl
theorem b_geq {k : IntKind} {x y : Int} : binV .geq (.int k x) (.int k y) = some (.bool (decide (y ≤ x))) := if_pos rfl
theorem b_cat {x y : ByteArray} (hs : x.size + y.size ≤ 9223372036854775807) : binV .add (.string x) (.string y) = some (.string (x ++ y)) := if_pos hs
theorem b_seq {x y : ByteArray} : binV .eql (.string x) (.string y) = some (.bool (decide (x = y))) := Eq.trans rfl rfl
theorem b_sne {x y : ByteArray} : binV .neq (.string x) (.string y) = some (.bool (!decide (x = y))) := Eq.trans rfl rfl
theorem u_not {b : Bool} : unA .not (.v (.bool b)) = some (.bool (!b)) := Eq.trans rfl rfl
theorem u_neg {k : IntKind} {z : Int} : unA .neg (.v (.int k z)) = some (.int k (k.wrap (0 - z))) := Eq.trans rfl rfl
theorem ex_tup {l : List AV} {i : Nat} : extrA (.tup l) i = l[i]? := Eq.trans rfl rfl
theorem mm_max {k k' : IntKind} {x y : Int} : mmA true [.v (.int k x), .v (.int k' y)] = some (.v (.int k (if y > x then y else x))) := Eq.trans rfl rfl
theorem mm_min {k k' : IntKind} {x y : Int} : mmA false [.v (.int k x), .v (.int k' y)] = some (.v (.int k (if y < x then y else x))) := Eq.trans rfl rfl
theorem w64 {x : Int} (h1 : -9223372036854775808 ≤ x) (h2 : x ≤ 9223372036854775807) : IntKind.i64.wrap x = x := by rw [IntKind.wrap_i64]; omega
theorem wu32 {x : Int} (h1 : 0 ≤ x) (h2 : x ≤ 4294967295) : IntKind.u32.wrap x = x := by rw [IntKind.wrap_u32]; omega
theorem wu64 {x : Int} (h1 : 0 ≤ x) (h2 : x ≤ 18446744073709551615) : IntKind.u64.wrap x = x := by rw [IntKind.wrap_u64]; omega
theorem wu8 {x : Int} (h1 : 0 ≤ x) (h2 : x ≤ 255) : IntKind.u8.wrap x = x := by rw [IntKind.wrap_u8]; omega

theorem bits_u32 : IntKind.u32.bits = 32 := Eq.trans rfl rfl
theorem bits_u64 : IntKind.u64.bits = 64 := Eq.trans rfl rfl
theorem bits_i64 : IntKind.i64.bits = 64 := Eq.trans rfl rfl
theorem bits_u8 : IntKind.u8.bits = 8 := Eq.trans rfl rfl

/-- A list by its places. -/
def tab (n : Nat) (f : Nat → AV) : List AV := (List.range n).map f
theorem tab_len {n : Nat} {f : Nat → AV} : (tab n f).length = n := by simp [tab]
theorem tab_get {n k : Nat} {f : Nat → AV} (hk : k < n) : (tab n f)[k]? = some (f k) := by simp [tab, hk]
theorem tab_set {n k : Nat} {f : Nat → AV} {x : AV} : (tab n f).set k x = tab n (fun i => if i = k then x else f i) := by
  apply List.ext_getElem?
  intro i
  by_cases hi : i < n
  · rw [tab_get hi, List.getElem?_set]
    by_cases e : k = i
    · subst e; simp [tab_len, hi]
    · simp [e, tab_get hi, show i ≠ k from fun e' => e e'.symm]
  · simp [tab, hi]
theorem tab_push {n : Nat} {f : Nat → AV} {x : AV} : tab n f ++ [x] = tab (n + 1) (fun i => if i = n then x else f i) := by
  apply List.ext_getElem?
  intro i
  rcases Nat.lt_trichotomy i n with hi | hi | hi
  · rw [List.getElem?_append_left (by rw [tab_len]; exact hi), tab_get hi, tab_get (by omega), if_neg (by omega)]
  · subst hi; rw [List.getElem?_append_right (by rw [tab_len]; exact Nat.le_refl _), tab_get (by omega), tab_len]; simp
  · rw [List.getElem?_append_right (by rw [tab_len]; omega), tab_len]
    rw [show i - n = (i - n - 1) + 1 by omega]
    simp [tab, show ¬ i < n + 1 by omega]
theorem ints_tab {n : Nat} {f : Nat → Int} : intsOf (tab n fun i => .v (.int .u8 (f i))) = some ((List.range n).map f) := by
  unfold tab
  generalize List.range n = l
  induction l with
  | nil => rfl
  | cons a r ih =>
    simp only [List.map_cons]
    show (intsOf (r.map _)).map _ = _
    rw [ih]; rfl
theorem tab_congr {n : Nat} {f f' : Nat → AV} (h : ∀ i, i < n → f i = f' i) : tab n f = tab n f' := by
  apply List.ext_getElem?
  intro i
  by_cases hi : i < n
  · rw [tab_get hi, tab_get hi, h i hi]
  · simp [tab, hi]

theorem ld {h : Hp} {T : TypeId} {a : AV} : loadA P h T a = (behind h a).bind (takeA P T) := Eq.trans rfl rfl
def bBlk (off : Nat) : Option (Option Ob) → Option (List AV)
  | some (some (.blk cells)) => some (cells.drop off)
  | _ => none
theorem bh_ptr {h : Hp} {id off : Nat} : behind h (.ptr id off) = bBlk off h[id]? := by
  show (match h[id]? with | some (some (.blk cells)) => some (cells.drop off) | _ => none) = _
  unfold bBlk; rfl
theorem bBlk_some {off : Nat} {l : List AV} : bBlk off (some (some (.blk l))) = some (l.drop off) := Eq.trans rfl rfl
def bArr (n off : Nat) : Option (Option Ob) → Option (List AV)
  | some (some (.arr _ s cells _)) => if cells.length = n * s then some (cells.drop off) else none
  | _ => none
theorem bh_ap {h : Hp} {id n off : Nat} : behind h (.ap id n off) = bArr n off h[id]? := by
  show (match h[id]? with | some (some (.arr _ s cells _)) => if cells.length = n * s then some (cells.drop off) else none | _ => none) = _
  unfold bArr; rfl
theorem bArr1 {n off fz : Nat} {T : TypeId} {l : List AV} (hl : l.length = n) : bArr n off (some (some (.arr T 1 l fz))) = some (l.drop off) := if_pos (by omega)
theorem bArr_some {n off fz s : Nat} {T : TypeId} {l : List AV} (hl : l.length = n * s) : bArr n off (some (some (.arr T s l fz))) = some (l.drop off) := if_pos hl
theorem bh_tp {h : Hp} {l : List AV} : behind h (.tp l) = some l := Eq.trans rfl rfl
def lArr (n : Nat) : Option (Option Ob) → Bool
  | some (some (.arr _ s cells _)) => decide (cells.length = n * s)
  | _ => false
def lBlk : Option (Option Ob) → Bool
  | some (some (.blk _)) => true
  | _ => false
theorem lv_own {h : Hp} {id n : Nat} : liveA h (.own id n) = lArr n h[id]? := by
  show (match h[id]? with | some (some (.arr _ s cells _)) => decide (cells.length = n * s) | _ => false) = _
  unfold lArr; rfl
theorem lv_ap {h : Hp} {id n off : Nat} : liveA h (.ap id n off) = lArr n h[id]? := by
  show (match h[id]? with | some (some (.arr _ s cells _)) => decide (cells.length = n * s) | _ => false) = _
  unfold lArr; rfl
theorem lv_ptr {h : Hp} {id off : Nat} : liveA h (.ptr id off) = lBlk h[id]? := by
  show (match h[id]? with | some (some (.blk _)) => true | _ => false) = _
  unfold lBlk; rfl
theorem lArr_some {n fz s : Nat} {T : TypeId} {l : List AV} : lArr n (some (some (.arr T s l fz))) = decide (l.length = n * s) := Eq.trans rfl rfl
theorem lBlk_some {l : List AV} : lBlk (some (some (.blk l))) = true := Eq.trans rfl rfl
theorem cl_int {h : Hp} {k : IntKind} {z : Int} : cellsA h (.v (.int k z)) = some [.v (.int k z)] := Eq.trans rfl rfl
theorem cl_bool {h : Hp} {b : Bool} : cellsA h (.v (.bool b)) = some [.v (.bool b)] := Eq.trans rfl rfl
theorem cl_str {h : Hp} {b : ByteArray} : cellsA h (.v (.string b)) = some [.v (.string b)] := Eq.trans rfl rfl
theorem cl_nils {h : Hp} : cellsA h (.v (.slice none 0 0)) = some [.v (.slice none 0 0)] := Eq.trans rfl rfl
theorem cl_nilp {h : Hp} {q : Option Addr} : cellsA h (.v (.pointer q)) = some [.v (.pointer q)] := Eq.trans rfl rfl
theorem cl_t {h : Hp} {n s : Nat} {l : List AV} : cellsA h (.t n s l) = some [.t n s l] := Eq.trans rfl rfl
theorem cl_g {h : Hp} {l : List AV} : cellsA h (.g l) = some l := Eq.trans rfl rfl
theorem cl_tp {h : Hp} {l : List AV} : cellsA h (.tp l) = some [.tp l] := Eq.trans rfl rfl
theorem cl_fn {h : Hp} {f : Fn} {l1 l2 : List AV} : cellsA h (.fn f l1 l2) = some [.fn f l1 l2] := Eq.trans rfl rfl
theorem cl_own {h : Hp} {id n : Nat} (h0 : liveA h (.own id n) = true) : cellsA h (.own id n) = some [.own id n] := if_pos h0
theorem cl_ptr {h : Hp} {id n : Nat} (h0 : liveA h (.ptr id n) = true) : cellsA h (.ptr id n) = some [.ptr id n] := if_pos h0
theorem on_v {h : Hp} {v : Value} : oneA h (.v v) = v.oneCell' := Eq.trans rfl rfl
theorem oc_int {k : IntKind} {z : Int} : Value.oneCell' (.int k z) = true := Eq.trans rfl rfl
theorem oc_bool {b : Bool} : Value.oneCell' (.bool b) = true := Eq.trans rfl rfl
theorem oc_str {b : ByteArray} : Value.oneCell' (.string b) = true := Eq.trans rfl rfl
theorem oc_slice {q : Option Addr} {n c : Nat} : Value.oneCell' (.slice q n c) = true := Eq.trans rfl rfl
theorem oc_ptr {q : Option Addr} : Value.oneCell' (.pointer q) = true := Eq.trans rfl rfl
theorem on_t {h : Hp} {n s : Nat} {l : List AV} : oneA h (.t n s l) = true := Eq.trans rfl rfl
theorem on_tp {h : Hp} {l : List AV} : oneA h (.tp l) = true := Eq.trans rfl rfl
theorem on_fn {h : Hp} {f : Fn} {l1 l2 : List AV} : oneA h (.fn f l1 l2) = true := Eq.trans rfl rfl
theorem on_own {h : Hp} {id n : Nat} : oneA h (.own id n) = liveA h (.own id n) := Eq.trans rfl rfl
theorem on_ptr {h : Hp} {id n : Nat} : oneA h (.ptr id n) = liveA h (.ptr id n) := Eq.trans rfl rfl
def stB (h : Hp) (a : AV) (l : List AV) : Option Nat → Bool → Option Hp
  | some n, true => if n = l.length then match a with
      | .ptr id off => match h[id]? with
        | some (some (.blk cells)) => if off + l.length ≤ cells.length then some (h.set id (some (.blk (setLA cells off l)))) else none
        | _ => none
      | .ap id n off => match h[id]? with
        | some (some (.arr T s cells fz)) => if cells.length = n * s ∧ fz ≤ off ∧ off + l.length ≤ cells.length then some (h.set id (some (.arr T s (setLA cells off l) fz))) else none
        | _ => none
      | _ => none
    else none
  | _, _ => none
def stA (P : Program) (h : Hp) (T : TypeId) (a : AV) : Option (List AV) → Option Hp
  | some l => stB h a l (szP P T) (l.all (oneA h))
  | none => none
theorem st {h : Hp} {T : TypeId} {a x : AV} : storeA P h T a x = stA P h T a (cellsA h x) := by
  unfold storeA stA
  cases cellsA h x with
  | none => rfl
  | some l =>
    simp only [Option.bind_some]
    unfold stB
    cases szP P T with
    | none => rw [if_neg (by simp)]
    | some n =>
      cases hl : l.all (oneA h) with
      | false => rw [if_neg (by simp)]
      | true =>
        by_cases e : n = l.length
        · subst e; rw [if_pos ⟨rfl, rfl⟩]; simp only [if_true]; rfl
        · rw [if_neg (fun q => e (by injection q.1))]; simp only [e, if_false]
def stP (h : Hp) (id off : Nat) (l : List AV) : Option (Option Ob) → Option Hp
  | some (some (.blk cells)) => if off + l.length ≤ cells.length then some (h.set id (some (.blk (setLA cells off l)))) else none
  | _ => none
def stQ (h : Hp) (id n off : Nat) (l : List AV) : Option (Option Ob) → Option Hp
  | some (some (.arr T s cells fz)) => if cells.length = n * s ∧ fz ≤ off ∧ off + l.length ≤ cells.length then some (h.set id (some (.arr T s (setLA cells off l) fz))) else none
  | _ => none
theorem st_ptr {h : Hp} {id off n : Nat} {l : List AV} (hn : n = l.length) : stB h (.ptr id off) l (some n) true = stP h id off l h[id]? := by
  show (if n = l.length then _ else _) = _
  rw [if_pos hn]; unfold stP; rfl
theorem st_ap {h : Hp} {id off n m : Nat} {l : List AV} (hn : n = l.length) : stB h (.ap id m off) l (some n) true = stQ h id m off l h[id]? := by
  show (if n = l.length then _ else _) = _
  rw [if_pos hn]; unfold stQ; rfl
theorem stP_some {h : Hp} {id off : Nat} {l cells : List AV} (hl : off + l.length ≤ cells.length) : stP h id off l (some (some (.blk cells))) = some (h.set id (some (.blk (setLA cells off l)))) := if_pos hl
theorem stQ_one {h : Hp} {id n off fz : Nat} {T : TypeId} {x : AV} {cells : List AV} (h1 : cells.length = n) (h2 : fz ≤ off) (h3 : off < n) : stQ h id n off [x] (some (some (.arr T 1 cells fz))) = some (h.set id (some (.arr T 1 (cells.set off x) fz))) := if_pos ⟨by omega, h2, by simp; omega⟩
theorem stQ_some {h : Hp} {id n s off fz : Nat} {T : TypeId} {l cells : List AV} (h1 : cells.length = n * s) (h2 : fz ≤ off) (h3 : off + l.length ≤ cells.length) : stQ h id n off l (some (some (.arr T s cells fz))) = some (h.set id (some (.arr T s (setLA cells off l) fz))) := if_pos ⟨h1, h2, h3⟩
theorem setLA_nil {l : List AV} {o : Nat} : setLA l o [] = l := Eq.trans rfl rfl
theorem setLA_cons {l r : List AV} {o : Nat} {a : AV} : setLA l o (a :: r) = setLA (l.set o a) (o + 1) r := Eq.trans rfl rfl

def sDz (P : Program) (all : List Oper) (h : Hp) (r : List Oper) (d : Tmp) (e : Ev) (al : List (Tmp × Value)) (K : Ev → List (Tmp × Value) → Prop) : Option Value → Prop
  | some z => wHead P p₀ all h r ((d, .none) :: e) (al ++ [(d, z)]) K
  | none => False
theorem sD_z {all : List Oper} {h : Hp} {r : List Oper} {d : Tmp} {e : Ev} {al : List (Tmp × Value)} {K : Ev → List (Tmp × Value) → Prop} {T : TypeId} : sD P p₀ all h r (some d) e al K T = sDz (p₀ := p₀) P all h r d e al K (zeroP P T) := by
  cases hz : zeroP P T with
  | none => exact propext ⟨fun ⟨T', z', d', h1, h2, h3, h4⟩ => by injection h1 with h1; subst h1; rw [hz] at h3; (cases h3), fun q => q.elim⟩
  | some z => exact propext ⟨fun ⟨T', z', d', h1, h2, h3, h4⟩ => by injection h1 with h1; subst h1; injection h2 with h2; subst h2; rw [hz] at h3; injection h3 with h3; subst h3; exact h4, fun q => ⟨T, z, d, rfl, rfl, hz, q⟩⟩
theorem sDz_some {all : List Oper} {h : Hp} {r : List Oper} {d : Tmp} {e : Ev} {al : List (Tmp × Value)} {K : Ev → List (Tmp × Value) → Prop} {z : Value} : sDz (p₀ := p₀) P all h r d e al K (some z) = wHead P p₀ all h r ((d, .none) :: e) (al ++ [(d, z)]) K := Eq.trans rfl rfl
def rsB (a : Option AV) (l : Option (List AV)) : Option Nat → Option (List AV)
  | some 0 => none
  | _ => resC a l
theorem resL_cell {e : Ev} {h : Hp} {t : Tmp} {T : TypeId} {r : List ResultVar} : resL P h e (.cell t T :: r) = rsB (loadA P h T (getE e t)) (resL P h e r) (szP P T) := by
  simp only [resL]
  cases hs : szP P T with
  | none => simp only [reduceCtorEq, if_false]; cases loadA P h T (getE e t) <;> cases resL P h e r <;> rfl
  | some n => cases n with
    | zero => rfl
    | succ n => rw [if_neg (by simp)]; cases loadA P h T (getE e t) <;> cases resL P h e r <;> rfl
theorem rsB_some {a : Option AV} {l : Option (List AV)} {n : Nat} (hn : n ≠ 0) : rsB a l (some n) = resC a l := by
  cases n with
  | zero => exact absurd rfl hn
  | succ n => rfl
def bB (op : BinOp) (x y : Bool) : Bool → Option Value
  | true => eqOp op (x == y)
  | false => none
theorem bin_bool {h : Hp} {op : BinOp} {T : TypeId} {x y : Bool} : binA P h op T (.v (.bool x)) (.v (.bool y)) = bB op x y (isBoolP P T) := by
  show (if isBoolP P T then _ else _) = _
  cases isBoolP P T <;> rfl
theorem bB_true {op : BinOp} {x y : Bool} : bB op x y true = eqOp op (x == y) := Eq.trans rfl rfl
def bN (op : BinOp) (b : Option Bool) : Bool → Option Value
  | true => b.bind (eqOp op)
  | false => none
def nP : Bool → Option Bool
  | true => some false
  | false => none
theorem np_ptr {h : Hp} {id off : Nat} : nilPA h (.ptr id off) = nP (liveA h (.ptr id off)) := by
  show (if liveA h (.ptr id off) = true then some false else none) = _
  cases liveA h (.ptr id off) <;> rfl
theorem np_ap {h : Hp} {id n off : Nat} : nilPA h (.ap id n off) = nP (liveA h (.ap id n off)) := by
  show (if liveA h (.ap id n off) = true then some false else none) = _
  cases liveA h (.ap id n off) <;> rfl
theorem np_tp {h : Hp} {l : List AV} : nilPA h (.tp l) = some false := Eq.trans rfl rfl
theorem np_v {h : Hp} {p : Option Addr} : nilPA h (.v (.pointer p)) = some p.isNone := Eq.trans rfl rfl
theorem nP_true : nP true = some false := Eq.trans rfl rfl
theorem bin_pz {h : Hp} {op : BinOp} {T : TypeId} {x : AV} : binA P h op T x (.t 1 1 []) = some (.int .i64 0) := Eq.trans rfl rfl
theorem bin_nilp {h : Hp} {op : BinOp} {T : TypeId} {x : AV} : binA P h op T x (.v (.pointer none)) = bN op (nilPA h x) (isPtrP P T) := by
  show (if isPtrP P T then _ else _) = _
  cases isPtrP P T <;> rfl
theorem bin_nils {h : Hp} {op : BinOp} {T : TypeId} {x : AV} : binA P h op T x (.v (.slice none 0 0)) = bN op (nilSA h x) ((elemP P T).isSome) := by
  show (if (elemP P T).isSome then _ else _) = _
  cases (elemP P T).isSome <;> rfl
theorem bin_g {h : Hp} {op : BinOp} {T : TypeId} {x : AV} {m : List AV} : binA P h op T x (.g m) = eqG P op T (cellsOf x) (some m) := Eq.trans rfl rfl
theorem bin_agg {h : Hp} {op : BinOp} {T : TypeId} {x : AV} {cs : Array Value} : binA P h op T x (.v (.agg cs)) = eqG P op T (cellsOf x) (some (cs.toList.map .v)) := Eq.trans rfl rfl
def eqH (op : BinOp) (l m : Option (List AV)) : Option (List FK) → Option Value
  | some ks => match l, m with
    | some l, some m => (eqL ks l m).bind (eqOp op)
    | _, _ => none
  | none => none
theorem eqG_h {op : BinOp} {T : TypeId} {l m : Option (List AV)} : eqG P op T l m = eqH op l m (flatP P T) := by
  unfold eqG
  cases flatP P T <;> cases l <;> cases m <;> rfl
theorem eqH_some {op : BinOp} {l m : List AV} {ks : List FK} : eqH op (some l) (some m) (some ks) = (eqL ks l m).bind (eqOp op) := Eq.trans rfl rfl
theorem eqL_nil : eqL [] [] [] = some true := Eq.trans rfl rfl
theorem eqL_cons {k : FK} {ks : List FK} {a b : AV} {l m : List AV} : eqL (k :: ks) (a :: l) (b :: m) = andO (eqC k a b) (eqL ks l m) := Eq.trans rfl rfl
theorem eqC_i {k : IntKind} {a b : Int} : eqC .i (.v (.int k a)) (.v (.int k b)) = some (decide (a = b)) := if_pos rfl
theorem eqC_b {a b : Bool} : eqC .b (.v (.bool a)) (.v (.bool b)) = some (a == b) := Eq.trans rfl rfl
theorem eqC_s {a b : ByteArray} : eqC .s (.v (.string a)) (.v (.string b)) = some (decide (a = b)) := Eq.trans rfl rfl
theorem andO_some {p q : Bool} : andO (some p) (some q) = some (p && q) := Eq.trans rfl rfl
theorem bN_true {op : BinOp} {b : Bool} : bN op (some b) true = eqOp op b := Eq.trans rfl rfl
def cvB (z : Int) : Option IntKind → Bool → Option Value
  | some k, true => some (.int k (k.wrap z))
  | _, _ => none
theorem conv_int {h : Hp} {s u : TypeId} {k : IntKind} {z : Int} : convA P h s u (.v (.int k z)) = cvB z (intP P u) (P.underlying s).isSome := by
  show (if (P.underlying s).isSome then _ else _) = _
  cases (P.underlying s).isSome <;> cases intP P u <;> rfl
def cvS (b : ByteArray) : Bool → Bool → Option Value
  | true, true => some (.string b)
  | _, _ => none
theorem conv_str {h : Hp} {s u : TypeId} {b : ByteArray} : convA P h s u (.v (.string b)) = cvS b (isStrP P s) (isStrP P u) := by
  show (if _ ∧ _ then _ else _) = _
  cases isStrP P s <;> cases isStrP P u <;> simp [cvS]
theorem cvS_true {b : ByteArray} : cvS b true true = some (.string b) := Eq.trans rfl rfl
def stD : Option IntKind → Bool → Option (List Int) → Option Value
  | some .u8, true, some ns => some (.string (strOf ns))
  | _, _, _ => none
theorem str_one {s u : TypeId} {cells : List AV} : strA P s u 1 cells = stD ((elemP P s).bind (intP P)) (isStrP P u) (intsOf cells) := by
  unfold strA
  cases h1 : (elemP P s).bind (intP P) with
  | none => rfl
  | some k => cases k <;> cases isStrP P u <;> cases intsOf cells <;> rfl
theorem stD_some {ns : List Int} : stD (some .u8) true (some ns) = some (.string (strOf ns)) := Eq.trans rfl rfl
theorem conv_t {h : Hp} {s u : TypeId} {n sz : Nat} {cells : List AV} (hl : cells.length = n * sz) : convA P h s u (.t n sz cells) = strA P s u sz cells := if_pos hl
def cvO (P : Program) (s u : TypeId) (n : Nat) : Option (Option Ob) → Option Value
  | some (some (.arr _ sz cells _)) => if cells.length = n * sz then strA P s u sz cells else none
  | _ => none
theorem conv_own {h : Hp} {s u : TypeId} {id n : Nat} : convA P h s u (.own id n) = cvO P s u n h[id]? := by
  unfold convA cvO; rfl
theorem cvO_one {s u : TypeId} {n fz : Nat} {T : TypeId} {cells : List AV} (hl : cells.length = n) : cvO P s u n (some (some (.arr T 1 cells fz))) = strA P s u 1 cells := if_pos (by omega)
theorem ints_nil : intsOf [] = some [] := Eq.trans rfl rfl
theorem cvB_some {z : Int} {k : IntKind} : cvB z (some k) true = some (.int k (k.wrap z)) := Eq.trans rfl rfl
def tkB (l : List AV) : Option Bool → Option Nat → Option AV
  | some false, some _ => l[0]?
  | some true, some s => if s ≤ l.length then some (.g (l.take s)) else none
  | _, _ => none
theorem tk {T : TypeId} {l : List AV} : takeA P T l = tkB l (aggP P T) (szP P T) := by
  unfold takeA tkB
  cases aggP P T with
  | none => rfl
  | some b => cases b <;> cases szP P T <;> rfl
theorem tkB_one {l : List AV} {s : Nat} : tkB l (some false) (some s) = l[0]? := Eq.trans rfl rfl
theorem tkB_agg {l : List AV} {s : Nat} (h : s ≤ l.length) : tkB l (some true) (some s) = some (.g (l.take s)) := if_pos h
def ixD (id n : Nat) (z : Int) (s : Nat) : Bool → Option AV
  | true => if 0 ≤ z ∧ z < n then some (.ap id n (z.toNat * s)) else none
  | false => none
def ixC (h : Hp) (a : AV) (z : Int) : Option Nat → Option AV
  | some s => match a with
    | .t n s' cells => if s' = s ∧ 0 ≤ z ∧ z < n then some (.tp (cells.drop (z.toNat * s))) else none
    | .own id n => ixD id n z s (liveA h (.own id n))
    | _ => none
  | none => none
def ixE (h : Hp) (a : AV) (z : Int) (n : Nat) : Option Nat → Option AV
  | some s => if 0 ≤ z ∧ z < n then shiftA h a (z.toNat * s) else none
  | none => none
def ixB (P : Program) (h : Hp) (a : AV) (z : Int) : Option TypeId → Option (Nat × TypeId) → Option AV
  | some e, _ => ixC h a z (szP P e)
  | none, some (n, e) => ixE h a z n (szP P e)
  | none, none => none
theorem ix {h : Hp} {T : TypeId} {a : AV} {z : Int} : idxA P h T a z = ixB P h a z (elemP P T) (arrP P T) := by
  unfold idxA ixB
  cases elemP P T with
  | some e =>
    cases hs : szP P e with
    | none => simp only [hs]; rfl
    | some s =>
      simp only [hs, Option.bind_some]
      unfold ixC
      cases a <;> first | rfl | skip
      · next id n =>
        unfold ixD
        cases hl : liveA h (.own id n) with
        | true => simp [hl]
        | false => simp [hl]
  | none =>
    cases arrP P T with
    | none => rfl
    | some p => obtain ⟨n, e⟩ := p; simp only; cases szP P e <;> rfl
theorem ixB_s {h : Hp} {a : AV} {z : Int} {e : TypeId} {o : Option (Nat × TypeId)} : ixB P h a z (some e) o = ixC h a z (szP P e) := Eq.trans rfl rfl
theorem ixB_a {h : Hp} {a : AV} {z : Int} {e : TypeId} {n : Nat} : ixB P h a z none (some (n, e)) = ixE h a z n (szP P e) := Eq.trans rfl rfl
theorem ixC_t {h : Hp} {n s : Nat} {l : List AV} {z : Int} (h3 : 0 ≤ z) (h4 : z < n) : ixC h (.t n s l) z (some s) = some (.tp (l.drop (z.toNat * s))) := if_pos ⟨rfl, h3, h4⟩
theorem ixC_own {h : Hp} {id n s : Nat} {z : Int} : ixC h (.own id n) z (some s) = ixD id n z s (liveA h (.own id n)) := Eq.trans rfl rfl
theorem ixD_true {id n s : Nat} {z : Int} (h3 : 0 ≤ z) (h4 : z < n) : ixD id n z s true = some (.ap id n (z.toNat * s)) := if_pos ⟨h3, h4⟩
theorem ixE_some {h : Hp} {a : AV} {n s : Nat} {z : Int} (h3 : 0 ≤ z) (h4 : z < n) : ixE h a z n (some s) = shiftA h a (z.toNat * s) := if_pos ⟨h3, h4⟩
def shB (a : AV) (o : Nat) : Bool → Option AV
  | true => match a with
    | .ptr id off => some (.ptr id (off + o))
    | .ap id n off => some (.ap id n (off + o))
    | .tp cells => some (.tp (cells.drop o))
    | _ => none
  | false => none
theorem sh {h : Hp} {a : AV} {o : Nat} : shiftA h a o = shB a o (liveA h a) := by
  unfold shiftA shB
  cases liveA h a <;> rfl
theorem sh_ptr {id off o : Nat} : shB (.ptr id off) o true = some (.ptr id (off + o)) := Eq.trans rfl rfl
theorem sh_ap {id n off o : Nat} : shB (.ap id n off) o true = some (.ap id n (off + o)) := Eq.trans rfl rfl
theorem sh_tp {l : List AV} {o : Nat} : shB (.tp l) o true = some (.tp (l.drop o)) := Eq.trans rfl rfl
theorem lv_tp {h : Hp} {l : List AV} : liveA h (.tp l) = true := Eq.trans rfl rfl
def lenD (n : Nat) : Bool → Option Nat
  | true => some n
  | false => none
def lenC (h : Hp) (x : AV) : Option TypeId → Bool → Option Nat
  | o, b => match x with
    | .v (.string s) => if b then some s.size else none
    | .t n _ _ => o.map fun _ => n
    | .own id n => if liveA h (.own id n) then o.map fun _ => n else none
    | .v (.slice _ n _) => o.map fun _ => n
    | _ => none
def lenB (P : Program) (h : Hp) (T : TypeId) (x : AV) : Option (Nat × TypeId) → Option Nat
  | some (n, _) => some n
  | none => lenC h x (elemP P T) (isStrP P T)
theorem len {h : Hp} {T : TypeId} {x : AV} : lenA P h T x = lenB P h T x (arrP P T) := by
  unfold lenA lenB
  cases arrP P T <;> rfl
theorem len_arr {h : Hp} {T e : TypeId} {n : Nat} {x : AV} : lenB P h T x (some (n, e)) = some n := Eq.trans rfl rfl
theorem len_no {h : Hp} {T : TypeId} {x : AV} : lenB P h T x none = lenC h x (elemP P T) (isStrP P T) := Eq.trans rfl rfl
theorem len_t {h : Hp} {e : TypeId} {b : Bool} {n s : Nat} {l : List AV} : lenC h (.t n s l) (some e) b = some n := Eq.trans rfl rfl
theorem len_nil {h : Hp} {e : TypeId} {b : Bool} : lenC h (.v (.slice none 0 0)) (some e) b = some 0 := Eq.trans rfl rfl
theorem len_own {h : Hp} {e : TypeId} {b : Bool} {id n : Nat} : lenC h (.own id n) (some e) b = lenD n (liveA h (.own id n)) := by
  show (if liveA h (.own id n) then _ else _) = _
  cases liveA h (.own id n) <;> rfl
theorem lenD_true {n : Nat} : lenD n true = some n := Eq.trans rfl rfl
theorem len_str {h : Hp} {o : Option TypeId} {s : ByteArray} : lenC h (.v (.string s)) o true = some s.size := Eq.trans rfl rfl
theorem stA_some {h : Hp} {T : TypeId} {a : AV} {l : List AV} : stA P h T a (some l) = stB h a l (szP P T) (l.all (oneA h)) := Eq.trans rfl rfl

def apE (h : Hp) (T by_ sz : Nat) (s : AV) (mn : Nat × List AV) : Option (AV × Hp) := match s with
  | .own id n => match h[id]? with
    | some (some (.arr T' s' cells fz)) => if T' = T ∧ s' = sz ∧ cells.length = n * sz ∧ n + mn.1 ≤ maxLen ∧ (n + mn.1) * by_ ≤ 140737488355328 then some (.own id (n + mn.1), h.set id (some (.arr T sz (cells ++ mn.2) fz))) else none
    | _ => none
  | .v (.slice none 0 0) => if mn.1 ≤ maxLen ∧ mn.1 * by_ ≤ 140737488355328 then some (.own h.length mn.1, h ++ [some (.arr T sz mn.2 0)]) else none
  | _ => none
def apB (h : Hp) (T : TypeId) (s : AV) : Option Nat → Option Nat → Option Value → Option (Nat × List AV) → Option (AV × Hp)
  | some sz, some by_, some z, some mn => if z.cells.size = sz ∧ 0 < sz then apE h T by_ sz s mn else none
  | _, _, _, _ => none
def apA (P : Program) (h : Hp) (tx : TypeId) (s x : AV) : Option TypeId → Option (AV × Hp)
  | some T => apB h T s (szP P T) (bytP P T) (zeroP P T) ((szP P T).bind fun sz => srcA P h tx sz x)
  | none => none
theorem ap {h : Hp} {t tx : TypeId} {s x : AV} : appendA P h t tx s x = apA P h tx s x (elemP P t) := by
  unfold appendA apA
  cases elemP P t with
  | none => rfl
  | some T =>
    simp only [Option.bind_some]
    cases szP P T with
    | none => rfl
    | some sz =>
      simp only [Option.bind_some]
      cases bytP P T with
      | none => rfl
      | some by_ =>
        simp only [Option.bind_some]
        cases zeroP P T with
        | none => rfl
        | some z =>
          simp only [Option.bind_some]
          cases srcA P h tx sz x with
          | none => rfl
          | some mn =>
            simp only [Option.bind_some, apB, apE]
            cases s <;> rfl
theorem apA_some {h : Hp} {tx T : TypeId} {s x : AV} : apA P h tx s x (some T) = apB h T s (szP P T) (bytP P T) (zeroP P T) ((szP P T).bind fun sz => srcA P h tx sz x) := Eq.trans rfl rfl
theorem apB_one {h : Hp} {T : TypeId} {s : AV} {sz by_ : Nat} {z : Value} {mn : Nat × List AV} (h1 : z.cells.size = sz) (h2 : 0 < sz) : apB h T s (some sz) (some by_) (some z) (some mn) = apE h T by_ sz s mn := if_pos ⟨h1, h2⟩
def apF (h : Hp) (T by_ sz id n : Nat) (m : Nat) (l : List AV) : Option (Option Ob) → Option (AV × Hp)
  | some (some (.arr T' s' cells fz)) => if T' = T ∧ s' = sz ∧ cells.length = n * sz ∧ n + m ≤ maxLen ∧ (n + m) * by_ ≤ 140737488355328 then some (.own id (n + m), h.set id (some (.arr T sz (cells ++ l) fz))) else none
  | _ => none
theorem apE_own {h : Hp} {T by_ sz id n m : Nat} {l : List AV} : apE h T by_ sz (AV.own id n) (m, l) = apF h T by_ sz id n m l h[id]? := by
  unfold apE apF; rfl
theorem apF_some {h : Hp} {T by_ sz id n m fz : Nat} {l cells : List AV} (h1 : cells.length = n * sz) (h2 : n + m ≤ 1152921504606846975) (h3 : (n + m) * by_ ≤ 140737488355328) : apF h T by_ sz id n m l (some (some (.arr T sz cells fz))) = some (.own id (n + m), h.set id (some (.arr T sz (cells ++ l) fz))) := if_pos ⟨rfl, rfl, h1, Nat.le_trans h2 (by decide), h3⟩
theorem apF_one {h : Hp} {T by_ id n m fz : Nat} {l cells : List AV} (h1 : cells.length = n) (h2 : n + m ≤ 1152921504606846975) (h3 : (n + m) * by_ ≤ 140737488355328) : apF h T by_ 1 id n m l (some (some (.arr T 1 cells fz))) = some (.own id (n + m), h.set id (some (.arr T 1 (cells ++ l) fz))) := if_pos ⟨rfl, rfl, by omega, Nat.le_trans h2 (by decide), h3⟩
theorem apE_nil {h : Hp} {T by_ sz m : Nat} {l : List AV} (h2 : m ≤ 1152921504606846975) (h3 : m * by_ ≤ 140737488355328) : apE h T by_ sz (.v (.slice none 0 0)) (m, l) = some (AV.own h.length m, h ++ [some (.arr T sz l 0)]) := if_pos ⟨Nat.le_trans h2 (by decide), h3⟩
def cpE (h : Hp) (id n sz m : Nat) (l : List AV) : Option (Option Ob) → Option (AV × Hp)
  | some (some (.arr T' s' cells fz)) => if s' = sz ∧ fz = 0 ∧ cells.length = n * sz ∧ m ≤ n then some (.v (.int .i64 m), h.set id (some (.arr T' s' (setLA cells 0 l) 0))) else none
  | _ => none
def cpB (h : Hp) : AV → Option Nat → Option (Nat × List AV) → Option (AV × Hp)
  | .own id n, some sz, some mn => cpE h id n sz mn.1 mn.2 h[id]?
  | _, _, _ => none
def cpA (P : Program) (h : Hp) (tx : TypeId) (d x : AV) : Option TypeId → Option (AV × Hp)
  | some T => cpB h d (szP P T) ((szP P T).bind fun sz => srcA P h tx sz x)
  | none => none
theorem cp {h : Hp} {t tx : TypeId} {d x : AV} : copyA P h t tx d x = cpA P h tx d x (elemP P t) := by
  unfold copyA cpA
  cases elemP P t with
  | none => rfl
  | some T =>
    simp only [Option.bind_some]
    cases szP P T with
    | none => cases d <;> rfl
    | some sz =>
      simp only [Option.bind_some]
      cases srcA P h tx sz x with
      | none => cases d <;> rfl
      | some mn =>
        simp only [Option.bind_some]
        cases d <;> rfl
theorem cpA_some {h : Hp} {tx T : TypeId} {d x : AV} : cpA P h tx d x (some T) = cpB h d (szP P T) ((szP P T).bind fun sz => srcA P h tx sz x) := Eq.trans rfl rfl
theorem cpB_own {h : Hp} {id n sz m : Nat} {l : List AV} : cpB h (AV.own id n) (some sz) (some (m, l)) = cpE h id n sz m l h[id]? := Eq.trans rfl rfl
theorem cpE_some {h : Hp} {T id n sz m : Nat} {l cells : List AV} (h1 : cells.length = n * sz) (h2 : m ≤ n) : cpE h id n sz m l (some (some (.arr T sz cells 0))) = some (AV.v (.int .i64 m), h.set id (some (.arr T sz (setLA cells 0 l) 0))) := if_pos ⟨rfl, rfl, h1, h2⟩
theorem cpE_one {h : Hp} {T id n m : Nat} {l cells : List AV} (h1 : cells.length = n) (h2 : m ≤ n) : cpE h id n 1 m l (some (some (.arr T 1 cells 0))) = some (AV.v (.int .i64 m), h.set id (some (.arr T 1 (setLA cells 0 l) 0))) := if_pos ⟨rfl, rfl, by omega, h2⟩
def atE (sz m : Nat) (l : List AV) : AV → Option AV
  | .e0 => some (.t m sz l)
  | .v (.slice none 0 0) => some (.t m sz l)
  | _ => none
def atB (s : AV) : Option Nat → Option Nat → Option Value → Option (Nat × List AV) → Option AV
  | some sz, some by_, some z, some mn => if z.cells.size = sz ∧ 0 < sz ∧ mn.1 ≤ maxLen ∧ mn.1 * by_ ≤ 140737488355328 then atE sz mn.1 mn.2 s else none
  | _, _, _, _ => none
def atA (P : Program) (h : Hp) (tx : TypeId) (s x : AV) : Option TypeId → Option AV
  | some T => atB s (szP P T) (bytP P T) (zeroP P T) ((szP P T).bind fun sz => srcA P h tx sz x)
  | none => none
theorem at_ {h : Hp} {t tx : TypeId} {s x : AV} : appT P h t tx s x = atA P h tx s x (elemP P t) := by
  unfold appT atA
  cases elemP P t with
  | none => rfl
  | some T =>
    simp only [Option.bind_some]
    cases szP P T with
    | none => rfl
    | some sz =>
      simp only [Option.bind_some]
      cases bytP P T with
      | none => rfl
      | some by_ =>
        simp only [Option.bind_some]
        cases zeroP P T with
        | none => rfl
        | some z =>
          simp only [Option.bind_some]
          cases srcA P h tx sz x with
          | none => rfl
          | some mn =>
            simp only [Option.bind_some, atB]
            cases s <;> rfl
theorem atA_some {h : Hp} {tx T : TypeId} {s x : AV} : atA P h tx s x (some T) = atB s (szP P T) (bytP P T) (zeroP P T) ((szP P T).bind fun sz => srcA P h tx sz x) := Eq.trans rfl rfl
theorem atB_some {s : AV} {sz by_ m : Nat} {z : Value} {l : List AV} (h1 : z.cells.size = sz) (h2 : 0 < sz) (h3 : m ≤ 1152921504606846975) (h4 : m * by_ ≤ 140737488355328) : atB s (some sz) (some by_) (some z) (some (m, l)) = atE sz m l s := if_pos ⟨h1, h2, Nat.le_trans h3 (by decide), h4⟩
theorem atE_e0 {sz m : Nat} {l : List AV} : atE sz m l .e0 = some (.t m sz l) := Eq.trans rfl rfl
theorem atE_nil {sz m : Nat} {l : List AV} : atE sz m l (.v (.slice none 0 0)) = some (.t m sz l) := Eq.trans rfl rfl
theorem cl_e0 {h : Hp} : cellsA h .e0 = some [.e0] := Eq.trans rfl rfl
theorem on_e0 {h : Hp} : oneA h .e0 = true := Eq.trans rfl rfl
theorem cs1_e0 {h : Hp} : close1 h .e0 = some (.e0, h) := Eq.trans rfl rfl
theorem cs2_e0 {h : Hp} : close2 h .e0 = some (.e0, h) := Eq.trans rfl rfl
theorem cs3_e0 {h : Hp} : close3 h .e0 = some (.e0, h) := Eq.trans rfl rfl
def srB (h : Hp) (s : Nat) (x : AV) : Bool → Bool → Option (Nat × List AV)
  | e, b => match x with
    | .t m s' cells => if s' = s ∧ e = true ∧ cells.all (oneA h) = true then some (m, cells) else none
    | .own id m => match h[id]? with
      | some (some (.arr _ s' cells _)) => if s' = s ∧ cells.length = m * s ∧ e = true ∧ cells.all (oneA h) = true then some (m, cells) else none
      | _ => none
    | .v (.string c) => if s = 1 ∧ b = true then some (c.size, c.data.toList.map fun c => .v (.int .u8 c.toNat)) else none
    | .v (.slice none 0 0) => if e = true then some (0, []) else none
    | _ => none
theorem sr {h : Hp} {tx : TypeId} {s : Nat} {x : AV} : srcA P h tx s x = srB h s x (elemP P tx).isSome (isStrP P tx) := by
  unfold srcA srB; rfl
def srC (m : Nat) (l : List AV) : Bool → Option (Nat × List AV)
  | true => some (m, l)
  | false => none
theorem sr_t {h : Hp} {m s : Nat} {l : List AV} {b : Bool} : srB h s (.t m s l) true b = srC m l (l.all (oneA h)) := by
  simp only [srB]
  cases hl : l.all (oneA h) <;> simp [srC]
theorem srC_true {m : Nat} {l : List AV} : srC m l true = some (m, l) := Eq.trans rfl rfl
def srD (h : Hp) (s m : Nat) : Option (Option Ob) → Option (Nat × List AV)
  | some (some (.arr _ s' cells _)) => if s' = s ∧ cells.length = m * s then srC m cells (cells.all (oneA h)) else none
  | _ => none
theorem sr_own {h : Hp} {id m s : Nat} {b : Bool} : srB h s (.own id m) true b = srD h s m h[id]? := by
  simp only [srB, srD]
  split
  · next T s' cells fz _ =>
    cases hl : cells.all (oneA h) <;> simp [srC]
  · rfl
theorem srD_some {h : Hp} {s m fz : Nat} {T : TypeId} {l : List AV} (hl : l.length = m * s) : srD h s m (some (some (.arr T s l fz))) = srC m l (l.all (oneA h)) := if_pos ⟨rfl, hl⟩
theorem srD_one {h : Hp} {m fz : Nat} {T : TypeId} {l : List AV} (hl : l.length = m) : srD h 1 m (some (some (.arr T 1 l fz))) = srC m l (l.all (oneA h)) := if_pos ⟨rfl, by omega⟩
theorem sr_nil {h : Hp} {s : Nat} {b : Bool} : srB h s (.v (.slice none 0 0)) true b = some (0, []) := Eq.trans rfl rfl
theorem sr_str {h : Hp} {e : Bool} {c : ByteArray} : srB h 1 (.v (.string c)) e true = some (c.size, c.data.toList.map fun c => .v (.int .u8 c.toNat)) := by
  unfold srB; simp
def clB (h : Hp) (id n : Nat) : Option (Option Ob) → Option (AV × Hp)
  | some (some (.arr T s cells fz)) => if cells.length = n * s then some (.t n s cells, h.set id (some (.arr T s cells cells.length))) else none
  | _ => none
theorem clB_some {h : Hp} {id n s fz : Nat} {T : TypeId} {l : List AV} (hl : l.length = n * s) : clB h id n (some (some (.arr T s l fz))) = some (.t n s l, h.set id (some (.arr T s l l.length))) := if_pos hl
theorem clB_one {h : Hp} {id n fz : Nat} {T : TypeId} {l : List AV} (hl : l.length = n) : clB h id n (some (some (.arr T 1 l fz))) = some (.t n 1 l, h.set id (some (.arr T 1 l l.length))) := if_pos (by omega)
theorem cs1_v {h : Hp} {x : Value} : close1 h (.v x) = some ((.v x), h) := Eq.trans rfl rfl
theorem cs1_t {h : Hp} {n s : Nat} {l : List AV} : close1 h (.t n s l) = some ((.t n s l), h) := Eq.trans rfl rfl
theorem cs1_tp {h : Hp} {l : List AV} : close1 h (.tp l) = some ((.tp l), h) := Eq.trans rfl rfl
theorem cs1_fn {h : Hp} {f : Fn} {l l2 : List AV} : close1 h (.fn f l l2) = some ((.fn f l l2), h) := Eq.trans rfl rfl
theorem cs1_none {h : Hp}  : close1 h .none = some (.none, h) := Eq.trans rfl rfl
theorem cs1_ptr {h : Hp} {id off : Nat} : close1 h (.ptr id off) = some ((.ptr id off), h) := Eq.trans rfl rfl
theorem cs1_own {h : Hp} {id n : Nat} : close1 h (.own id n) = clB h id n h[id]? := by
  unfold clB; first | rfl | (show close1 h (.own id n) = _; rfl)
theorem cs2_v {h : Hp} {x : Value} : close2 h (.v x) = some ((.v x), h) := Eq.trans rfl rfl
theorem cs2_t {h : Hp} {n s : Nat} {l : List AV} : close2 h (.t n s l) = some ((.t n s l), h) := Eq.trans rfl rfl
theorem cs2_tp {h : Hp} {l : List AV} : close2 h (.tp l) = some ((.tp l), h) := Eq.trans rfl rfl
theorem cs2_fn {h : Hp} {f : Fn} {l l2 : List AV} : close2 h (.fn f l l2) = some ((.fn f l l2), h) := Eq.trans rfl rfl
theorem cs2_none {h : Hp}  : close2 h .none = some (.none, h) := Eq.trans rfl rfl
theorem cs2_ptr {h : Hp} {id off : Nat} : close2 h (.ptr id off) = some ((.ptr id off), h) := Eq.trans rfl rfl
theorem cs2_own {h : Hp} {id n : Nat} : close2 h (.own id n) = clB h id n h[id]? := by
  unfold clB; first | rfl | (show close1 h (.own id n) = _; rfl)
theorem cs3_v {h : Hp} {x : Value} : close3 h (.v x) = some ((.v x), h) := Eq.trans rfl rfl
theorem cs3_t {h : Hp} {n s : Nat} {l : List AV} : close3 h (.t n s l) = some ((.t n s l), h) := Eq.trans rfl rfl
theorem cs3_tp {h : Hp} {l : List AV} : close3 h (.tp l) = some ((.tp l), h) := Eq.trans rfl rfl
theorem cs3_fn {h : Hp} {f : Fn} {l l2 : List AV} : close3 h (.fn f l l2) = some ((.fn f l l2), h) := Eq.trans rfl rfl
theorem cs3_none {h : Hp}  : close3 h .none = some (.none, h) := Eq.trans rfl rfl
theorem cs3_ptr {h : Hp} {id off : Nat} : close3 h (.ptr id off) = some ((.ptr id off), h) := Eq.trans rfl rfl
theorem cs3_own {h : Hp} {id n : Nat} : close3 h (.own id n) = clB h id n h[id]? := by
  unfold clB; first | rfl | (show close1 h (.own id n) = _; rfl)
theorem cs2_g {h : Hp} {l : List AV} : close2 h (.g l) = (closeWith close1 h l).map fun p => (.g p.1, p.2) := Eq.trans rfl rfl
theorem cs3_g {h : Hp} {l : List AV} : close3 h (.g l) = (closeWith close1 h l).map fun p => (.g p.1, p.2) := Eq.trans rfl rfl
theorem cs3_tup {h : Hp} {l : List AV} : close3 h (.tup l) = (closeWith close2 h l).map fun p => (.tup p.1, p.2) := Eq.trans rfl rfl
def cwC (a : AV) : Option (List AV × Hp) → Option (List AV × Hp)
  | some (r, h) => some (a :: r, h)
  | none => none
def cwB (f : Hp → AV → Option (AV × Hp)) (r : List AV) : Option (AV × Hp) → Option (List AV × Hp)
  | some (a, h) => cwC a (closeWith f h r)
  | none => none
theorem cw_nil {f : Hp → AV → Option (AV × Hp)} {h : Hp} : closeWith f h [] = some ([], h) := Eq.trans rfl rfl
theorem cw_cons {f : Hp → AV → Option (AV × Hp)} {h : Hp} {a : AV} {r : List AV} : closeWith f h (a :: r) = cwB f r (f h a) := by
  simp only [closeWith]
  cases f h a with
  | none => rfl
  | some p => obtain ⟨a', h1⟩ := p; simp only [cwB, cwC]; cases closeWith f h1 r <;> rfl
theorem cwB_some {f : Hp → AV → Option (AV × Hp)} {h : Hp} {a : AV} {r : List AV} : cwB f r (some (a, h)) = cwC a (closeWith f h r) := Eq.trans rfl rfl
theorem cwC_some {h : Hp} {a : AV} {r : List AV} : cwC a (some (r, h)) = some (a :: r, h) := Eq.trans rfl rfl
end
end Go.Proofs.YtljfgdlgmdcmfaaGreat.Wv
