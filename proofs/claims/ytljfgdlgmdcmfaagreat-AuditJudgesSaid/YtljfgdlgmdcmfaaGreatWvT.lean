/- The machine of abstract values: its rules, one for each form of code and operation. -/
import Derived.Test.YtljfgdlgmdcmfaaGreatWvS
namespace Go.Proofs.YtljfgdlgmdcmfaaGreat.Wv
open Go.RowKit
set_option linter.unusedVariables false
set_option autoImplicit false

section
variable (P : Program) (p₀ : AV → Hp → Prop) (N : Nat) (L : List Nat) (ks : List (Nat × Nat))
def kSeq (b : Code) (Q : PostW) : PostW := fun x e' h' => match x with | .normal => wCode P N L ks b Q e' h' | x => Q x e' h'
def kBlk (id : Nat) (Q : PostW) : PostW := fun x e' h' => match x with | .exit i => if i = id then Q .normal e' h' else Q (.exit i) e' h' | x => Q x e' h'
def kP (l : List Oper) (e : Ev) (Q : PostW) : AV → Hp → Prop := fun a h => Q (.panic a) (delE l e) h
def kReg (Q : PostW) : Ev → Hp → Prop := fun e h => Q .normal (keepE L e) h
def kTail (fl : Nat) (hd all rest : List Oper) (n : Nat) (h : Hp) (Q : PostW) : Ev → List (Tmp × Value) → Prop := fun e1 al => if fl = 1 then DeadE hd e1 else wOps P p₀ all rest (allocEnv n al e1) (h ++ al.map blkOf) (kReg L Q)
def kO (all r : List Oper) (d : Option Tmp) (e : Ev) (K : Ev → Hp → Prop) : AV → Hp → Prop := fun a h => wOps P p₀ all r (putE e d a) h K
def kR (K : AV → Hp → Prop) (h : Hp) : AV → Prop := fun a => K a h
def kH (all : List Oper) (h : Hp) (r : List Oper) (d : Option Tmp) (e : Ev) (al : List (Tmp × Value)) (K : Ev → List (Tmp × Value) → Prop) : AV → Prop := fun a => wHead P p₀ all h r (putE e d a) al K
def kFor (ks : List (Nat × Nat)) (N : Nat) {σ : Type} (env : σ → Ev) (hp : σ → Hp) (inv : σ → Prop) (ms : σ → Nat) (n : Nat) (Q : PostW) : PostW := fun x e h => match x with
  | .normal => ∃ n' e₁ h₁, Ent (base ks) N e h e₁ h₁ ∧ n' < n ∧ ∃ s, e₁ = env s ∧ h₁ = hp s ∧ inv s ∧ n' = ms s
  | x => Q x e h
def sV (K : AV → Prop) (o : Option Value) : Prop := ∃ r, o = some r ∧ K (.v r)
def sA (K : AV → Prop) (o : Option AV) : Prop := ∃ r, o = some r ∧ K r
def sG (K : AV → Prop) (o : Option (List AV)) : Prop := ∃ r, o = some r ∧ K (.g r)
def sO (K : AV → Hp → Prop) (o : Option (AV × Hp)) : Prop := ∃ r h, o = some (r, h) ∧ K r h
def sH (K : AV → Hp → Prop) (o : Option Hp) : Prop := ∃ h, o = some h ∧ K .none h
def sZ (K : AV → Hp → Prop) (h : Hp) (o : Option Value) : Prop := ∃ z, o = some z ∧ K (.ptr h.length 0) (h ++ [some (.blk (vcells z))])
def sB (K : AV → Hp → Prop) (h : Hp) (o : Option (List AV)) : Prop := ∃ l, o = some l ∧ K (.ptr h.length 0) (h ++ [some (.blk l)])
def sS (K : AV → Hp → Prop) (h : Hp) (n : Nat) (o : Option (TypeId × Nat × List AV)) : Prop := ∃ te s l, o = some (te, s, l) ∧ K (.own h.length n) (h ++ [some (.arr te s l 0)])
def sT (K : AV → Prop) (n : Nat) (o : Option (TypeId × Nat × List AV)) : Prop := ∃ te s l, o = some (te, s, l) ∧ K (.t n s l)
def sI (P : Program) (T : TypeId) (K : AV → Hp → Prop) (h : Hp) (l c : Option Int) : Prop := ∃ zl zc te s L, l = some zl ∧ c = some zc ∧ makeA P T zl zc = some (te, s, L) ∧ K (.own h.length zl.toNat) (h ++ [some (.arr te s L 0)])
def sX (f : Int → Option AV) (K : AV → Prop) (z : Option Int) : Prop := ∃ i, z = some i ∧ sA K (f i)
def sN (K : AV → Prop) (x : AV) (o : Option Bool) : Prop := o = some false ∧ K x
def sL (K : AV → Prop) (o : Option Nat) : Prop := ∃ n, o = some n ∧ K (.v (.int .i64 n))
def sP (K : AV → Prop) (c x y : AV) : Prop := ∃ t, c = .v (.bool t) ∧ K (bif t then x else y)
def sCall (K : AV → Hp → Prop) (h : Hp) (f : AV) (args : List AV) : Prop := ∃ fid fst cap, f = .fn (.func fid) fst cap ∧ HTP P fid (fst ++ args ++ cap) h K p₀
def sCalm (K : AV → Prop) (h : Hp) (f : AV) (args : List AV) : Prop := ∃ fid fst cap, f = .fn (.func fid) fst cap ∧ ∃ res, HTP P fid (fst ++ args ++ cap) h (fun r h' => r = res ∧ h' = h) p₀ ∧ K res
def sC (a b : Code) (Q : PostW) (e : Ev) (h : Hp) (c : AV) : Prop := ∃ t, c = .v (.bool t) ∧ if t = true then wCode P N L ks a Q e h else wCode P N L ks b Q e h
def sW (all : List Oper) (o : Oper) (r : List Oper) (d : Option Tmp) (e : Ev) (h : Hp) (K : Ev → Hp → Prop) (want : Bool) (g : AV) : Prop := ∃ b, gB want g = some b ∧ if b = true then wOp P p₀ o (opnd e) h (kO P p₀ all r d e K) else wOps P p₀ all r (putE e d (.v undef)) h K
def sY (all : List Oper) (h : Hp) (o : Oper) (r : List Oper) (d : Option Tmp) (e : Ev) (al : List (Tmp × Value)) (K : Ev → List (Tmp × Value) → Prop) (want : Bool) (g : AV) : Prop := ∃ b, gB want g = some b ∧ if b = true then cOp P p₀ o (opnd e) h (kH P p₀ all h r d e al K) else wHead P p₀ all h r (putE e d (.v undef)) al K
def gGet (e : Ev) : Option Tmp → AV
  | some d => getE e d
  | none => .none
def sF (Q : AV → Hp → Prop) (h : Hp) (o : Option AV) : Prop := ∃ r, o = some r ∧ ∃ r' h', close3 h r = some (r', h') ∧ Q r' h'
def sE (Q : AV → Hp → Prop) (o : Option (AV × Hp)) : Prop := ∃ r h, o = some (r, h) ∧ Q r h
def sD (all : List Oper) (h : Hp) (r : List Oper) (d : Option Tmp) (e : Ev) (al : List (Tmp × Value)) (K : Ev → List (Tmp × Value) → Prop) (T : TypeId) : Prop := ∃ T' z d', Op.alloc T = Op.alloc T' ∧ d = some d' ∧ zeroP P T' = some z ∧ wHead P p₀ all h r (putE e d .none) (al ++ [(d', z)]) K
end

section
variable {P : Program} {p₀ : AV → Hp → Prop} {N : Nat} {L : List Nat} {ks : List (Nat × Nat)}
/-- What an environment says of another. -/
def fitE : Ev → Ev → Prop
  | [], _ => True
  | (d, a) :: r, e => getE e d = a ∧ fitE r e
theorem fitE_nil {e : Ev} : fitE [] e = True := Eq.trans rfl rfl
theorem fitE_cons {d : Nat} {a : AV} {r e : Ev} : fitE ((d, a) :: r) e = (getE e d = a ∧ fitE r e) := Eq.trans rfl rfl
theorem fitE_get : ∀ {e' e : Ev} (h : fitE e' e) (d : Nat), getE e' d = getE e d ∨ getE e' d = .none
  | [], e, _, d => .inr rfl
  | (k, a) :: r, e, h, d => by
    show (if k = d then a else getE r d) = _ ∨ (if k = d then a else getE r d) = _
    by_cases hk : k = d
    · subst hk; left; rw [if_pos rfl]; exact h.1.symm
    · rw [if_neg hk]; exact fitE_get h.2 d
theorem Ent.fit {n0 : Nat} {e e' : Ev} {h : Hp} (hf : fitE e' e) : Ent n0 N e h e' h := fun X a hh hn hX hE => ⟨X, rfl, hh, (Step.refl X).toN (hh ▸ hn), hX, hE.defers, hE.size, fun d => by
  rcases fitE_get hf d with q | q
  · rw [q]; exact hE.rep d
  · rw [q]; exact .none _⟩
theorem c_skip {Q : PostW} {e : Ev} {h : Hp} : wCode P N L ks .skip Q e h = Q .normal e h := Eq.trans rfl rfl
theorem c_ret {Q : PostW} {e : Ev} {h : Hp} : wCode P N L ks .ret Q e h = Q .ret e h := Eq.trans rfl rfl
theorem c_exit {i : Nat} {Q : PostW} {e : Ev} {h : Hp} : wCode P N L ks (.exit i) Q e h = Q (.exit i) e h := Eq.trans rfl rfl
theorem c_label {i : Nat} {Q : PostW} {e : Ev} {h : Hp} : wCode P N L ks (.label i) Q e h = Q .normal e h := Eq.trans rfl rfl
theorem c_scope {b : Code} {Q : PostW} {e : Ev} {h : Hp} : wCode P N L ks (.scope b) Q e h = wCode P N L ks b Q e h := Eq.trans rfl rfl
theorem c_seq {a b : Code} {Q : PostW} {e : Ev} {h : Hp} : wCode P N L ks (.seq a b) Q e h = wCode P N L ks a (kSeq P N L ks b Q) e h := Eq.trans rfl rfl
theorem c_block {i : Nat} {b : Code} {Q : PostW} {e : Ev} {h : Hp} : wCode P N L ks (.block i b) Q e h = wCode P N L ks b (kBlk i Q) e h := Eq.trans rfl rfl
theorem c_cond {c : Operand} {a b : Code} {Q : PostW} {e : Ev} {h : Hp} : wCode P N L ks (.cond c a b) Q e h = sC P N L ks a b Q e h (opnd e c) := Eq.trans rfl rfl
theorem c_reg {i : Nat} {l : List Oper} {Q : PostW} {e : Ev} {h : Hp} : wCode P N L ks (.region i l.toArray false) Q e h = wOps P (kP l e Q) l l e h (kReg L Q) := Eq.trans rfl rfl
theorem c_draw {i : Nat} {l : List Oper} {Q : PostW} {e : Ev} {h : Hp} : wCode P N L ks (.region i l.toArray true) Q e h = wDraw (kOf ks i) (escE P N ks i l.toArray Q e h) (wHead P (kP l e Q) l (frzM (kOf ks (3000000 + i)) h) (l.take (kOf ks i)) e [] (kTail P (kP l e Q) L (kOf ks (4000000 + i)) (l.take (kOf ks i)) l (l.drop (kOf ks i)) h.length (frzM (kOf ks (3000000 + i)) h) Q)) := Eq.trans rfl rfl
theorem wd_no {k : Nat} {E W : Prop} (hk : k ≠ 1000000) : wDraw k E W = W := if_neg hk
theorem wd_esc {E W : Prop} : wDraw 1000000 E W = E := if_pos rfl
theorem k_seq0 {b : Code} {Q : PostW} {e : Ev} {h : Hp} : kSeq P N L ks b Q .normal e h = wCode P N L ks b Q e h := Eq.trans rfl rfl
theorem k_seq1 {b : Code} {Q : PostW} {i : Nat} {e : Ev} {h : Hp} : kSeq P N L ks b Q (.exit i) e h = Q (.exit i) e h := Eq.trans rfl rfl
theorem k_seq2 {b : Code} {Q : PostW} {e : Ev} {h : Hp} : kSeq P N L ks b Q .ret e h = Q .ret e h := Eq.trans rfl rfl
theorem k_seq3 {b : Code} {Q : PostW} {a : AV} {e : Ev} {h : Hp} : kSeq P N L ks b Q (.panic a) e h = Q (.panic a) e h := Eq.trans rfl rfl
theorem k_p {l : List Oper} {e : Ev} {Q : PostW} {a : AV} {h : Hp} : kP l e Q a h = Q (.panic a) (delE l e) h := Eq.trans rfl rfl
theorem k_blk0 {j : Nat} {Q : PostW} {e : Ev} {h : Hp} : kBlk j Q .normal e h = Q .normal e h := Eq.trans rfl rfl
theorem k_blk1 {j i : Nat} {Q : PostW} {e : Ev} {h : Hp} : kBlk j Q (.exit i) e h = if i = j then Q .normal e h else Q (.exit i) e h := Eq.trans rfl rfl
theorem k_blk2 {j : Nat} {Q : PostW} {e : Ev} {h : Hp} : kBlk j Q .ret e h = Q .ret e h := Eq.trans rfl rfl
theorem k_blk3 {j : Nat} {Q : PostW} {a : AV} {e : Ev} {h : Hp} : kBlk j Q (.panic a) e h = Q (.panic a) e h := Eq.trans rfl rfl
theorem k_reg {Q : PostW} {e : Ev} {h : Hp} : kReg L Q e h = Q .normal (keepE L e) h := Eq.trans rfl rfl
theorem k_tail1 {hd all rest : List Oper} {n : Nat} {h : Hp} {Q : PostW} {e1 : Ev} {al : List (Tmp × Value)} : kTail P p₀ L 1 hd all rest n h Q e1 al = DeadE hd e1 := Eq.trans rfl rfl
theorem k_tail {hd all rest : List Oper} {n : Nat} {h : Hp} {Q : PostW} {e1 : Ev} {al : List (Tmp × Value)} : kTail P p₀ L 0 hd all rest n h Q e1 al = wOps P p₀ all rest (allocEnv n al e1) (h ++ al.map blkOf) (kReg L Q) := Eq.trans rfl rfl
theorem k_o {all r : List Oper} {d : Option Tmp} {e : Ev} {K : Ev → Hp → Prop} {a : AV} {h : Hp} : kO P p₀ all r d e K a h = wOps P p₀ all r (putE e d a) h K := Eq.trans rfl rfl
theorem k_r {K : AV → Hp → Prop} {h : Hp} {a : AV} : kR K h a = K a h := Eq.trans rfl rfl
theorem k_h {all : List Oper} {h : Hp} {r : List Oper} {d : Option Tmp} {e : Ev} {al : List (Tmp × Value)} {K : Ev → List (Tmp × Value) → Prop} {a : AV} : kH P p₀ all h r d e al K a = wHead P p₀ all h r (putE e d a) al K := Eq.trans rfl rfl
theorem k_next {σ : Type} {env : σ → Ev} {hp : σ → Hp} {inv : σ → Prop} {ms : σ → Nat} {n : Nat} {Q : PostW} {e : Ev} {h : Hp} (s : σ) (hi : inv s) (hm : ms s < n) (hh : h = hp s) (he : fitE (env s) e) : kFor ks N env hp inv ms n Q .normal e h := by
  subst hh
  exact ⟨_, _, _, Ent.fit he, hm, s, rfl, rfl, hi, rfl⟩
theorem k_turn {σ : Type} {env : σ → Ev} {hp : σ → Hp} {inv : σ → Prop} {ms : σ → Nat} {n : Nat} {Q : PostW} {e : Ev} {h : Hp} (s : σ) (he : Ent (base ks) N e h (env s) (hp s)) (hi : inv s) (hm : ms s < n) : kFor ks N env hp inv ms n Q .normal e h :=
  ⟨_, _, _, he, hm, s, rfl, rfl, hi, rfl⟩
theorem k_for1 {σ : Type} {env : σ → Ev} {hp : σ → Hp} {inv : σ → Prop} {ms : σ → Nat} {n i : Nat} {Q : PostW} {e : Ev} {h : Hp} : kFor ks N env hp inv ms n Q (.exit i) e h = Q (.exit i) e h := Eq.trans rfl rfl
theorem k_for2 {σ : Type} {env : σ → Ev} {hp : σ → Hp} {inv : σ → Prop} {ms : σ → Nat} {n : Nat} {Q : PostW} {e : Ev} {h : Hp} : kFor ks N env hp inv ms n Q .ret e h = Q .ret e h := Eq.trans rfl rfl

theorem k_for3 {σ : Type} {env : σ → Ev} {hp : σ → Hp} {inv : σ → Prop} {ms : σ → Nat} {n : Nat} {Q : PostW} {a : AV} {e : Ev} {h : Hp} : kFor ks N env hp inv ms n Q (.panic a) e h = Q (.panic a) e h := Eq.trans rfl rfl

theorem wfor {σ : Type} (env : σ → Ev) (hp : σ → Hp) (inv : σ → Prop) (ms : σ → Nat) (s0 : σ) {b : Code} {Q : PostW} {e : Ev} {h : Hp} (hi : inv s0) (hh : h = hp s0) (he : fitE (env s0) e)
    (hr : ∀ s, inv s → wCode P N L ks b (kFor ks N env hp inv ms (ms s) Q) (env s) (hp s)) : wCode P N L ks (.loop b) Q e h := by
  subst hh
  refine ⟨fun n e h => ∃ s, e = env s ∧ h = hp s ∧ inv s ∧ n = ms s, ms s0, _, _, Ent.fit he, ⟨s0, rfl, rfl, hi, rfl⟩, ?_⟩
  rintro n e' h' ⟨s, rfl, rfl, hs, rfl⟩
  exact hr s hs

theorem TC.by {f : FuncId} {fn : Func} {body : Code} {args : List AV} {res : AV} (N : Nat) (L : List Nat) (ks : List (Nat × Nat)) (rs : List ResultVar) (hf : P.funcs[f]? = some fn) (hb : fn.body = some body) (hn : fn.ntmps = N) (hr : fn.results = rs.toArray) (hc : Clo res)
    (hw : wCode P N L ks body (Fin P rs.toArray fun r _ => r = res) (argE 0 args) []) (hmix : P.follows .mixedOrders = true := by kernel_rfl) (hp : bodyP P f = true := by kernel_rfl) (hk : okCode N ks body = true := by kernel_rfl) (hN : args.length ≤ N := by exact Nat.le_of_ble_eq_true rfl) (hbs : base ks = 0 := by rfl) : TC P f args res := by
  subst hn
  rw [← hr] at hw
  exact TC.of L ks hmix hf hb hp hk hN hbs hc hw
theorem HT.by {f : FuncId} {fn : Func} {body : Code} {args : List AV} {h : Hp} {R : AV → Hp → Prop} (N : Nat) (L : List Nat) (ks : List (Nat × Nat)) (rs : List ResultVar) (hf : P.funcs[f]? = some fn) (hb : fn.body = some body) (hn : fn.ntmps = N) (hr : fn.results = rs.toArray) (hbs : base ks = h.length)
    (hw : wCode P N L ks body (Fin P rs.toArray R) (argE 0 args) h) (hmix : P.follows .mixedOrders = true := by kernel_rfl) (hp : bodyP P f = true := by kernel_rfl) (hk : okCode N ks body = true := by kernel_rfl) (hN : args.length ≤ N := by exact Nat.le_of_ble_eq_true rfl) : HT P f args h R := by
  subst hn
  rw [← hr] at hw
  exact HT.of hmix hf hb hp hk hN hbs hw

theorem HTP.by {f : FuncId} {fn : Func} {body : Code} {args : List AV} {h : Hp} {R p : AV → Hp → Prop} (N : Nat) (L : List Nat) (ks : List (Nat × Nat)) (rs : List ResultVar) (hf : P.funcs[f]? = some fn) (hb : fn.body = some body) (hn : fn.ntmps = N) (hr : fn.results = rs.toArray) (hbs : base ks = h.length)
    (hw : wCode P N L ks body (FinP P rs.toArray R p) (argE 0 args) h) (hmix : P.follows .mixedOrders = true := by kernel_rfl) (hp : bodyP P f = true := by kernel_rfl) (hk : okCode N ks body = true := by kernel_rfl) (hN : args.length ≤ N := by exact Nat.le_of_ble_eq_true rfl) : HTP P f args h R p := by
  subst hn
  rw [← hr] at hw
  exact HTP.of hmix hf hb hp hk hN hbs hw

theorem fz_zero {h : Hp} : frzM 0 h = h.map froze := frzM_zero h
theorem fz_cons {m : Nat} {o : Option Ob} {r : Hp} : frzM m (o :: r) = (if m % 2 = 1 then o else froze o) :: frzM (m / 2) r := Eq.trans rfl rfl
theorem fz_nil {m : Nat} : frzM m [] = [] := by cases m <;> rfl
theorem o_nil {all : List Oper} {e : Ev} {h : Hp} {K : Ev → Hp → Prop} : wOps P p₀ all [] e h K = K e h := Eq.trans rfl rfl
theorem o_cons {all r : List Oper} {e : Ev} {h : Hp} {K : Ev → Hp → Prop} {d : Option Tmp} {t : TypeId} {p : String} {a : Array Edge} {op : Op} : wOps P p₀ all (⟨d, op, t, p, a, none⟩ :: r) e h K = wOp P p₀ ⟨d, op, t, p, a, none⟩ (opnd e) h (kO P p₀ all r d e K) := Eq.trans rfl rfl
theorem o_when {all r : List Oper} {e : Ev} {h : Hp} {K : Ev → Hp → Prop} {d : Option Tmp} {t : TypeId} {p : String} {a : Array Edge} {op : Op} {j : Nat} {w : Bool} : wOps P p₀ all (⟨d, op, t, p, a, some (j, w)⟩ :: r) e h K = sW P p₀ all ⟨d, op, t, p, a, none⟩ r d e h K w (gGet e ((all[j]?).bind (·.dst))) := by
  have e1 : ∀ K', wOp P p₀ ⟨d, op, t, p, a, some (j, w)⟩ (opnd e) h K' = wOp P p₀ ⟨d, op, t, p, a, none⟩ (opnd e) h K' := fun K' => by cases op <;> rfl
  have e2 : guardE all e j = gGet e ((all[j]?).bind (·.dst)) := by unfold guardE gGet; rfl
  show (∃ b, gB w (guardE all e j) = some b ∧ (if b = true then wOp P p₀ ⟨d, op, t, p, a, some (j, w)⟩ (opnd e) h (kO P p₀ all r d e K) else _)) = _
  rw [e1, e2]; rfl
theorem h_nil {all : List Oper} {e : Ev} {h : Hp} {al : List (Tmp × Value)} {K : Ev → List (Tmp × Value) → Prop} : wHead P p₀ all h [] e al K = K e al := Eq.trans rfl rfl
theorem h_alloc {all r : List Oper} {e : Ev} {h : Hp} {al : List (Tmp × Value)} {K : Ev → List (Tmp × Value) → Prop} {d : Option Tmp} {t : TypeId} {p : String} {a : Array Edge} {T : TypeId} : wHead P p₀ all h (⟨d, .alloc T, t, p, a, none⟩ :: r) e al K = sD P p₀ all h r d e al K T := Eq.trans rfl rfl
theorem h_cons {all r : List Oper} {e : Ev} {h : Hp} {al : List (Tmp × Value)} {K : Ev → List (Tmp × Value) → Prop} {d : Option Tmp} {t : TypeId} {p : String} {a : Array Edge} {op : Op} : isAlloc ⟨d, op, t, p, a, none⟩ = false → wHead P p₀ all h (⟨d, op, t, p, a, none⟩ :: r) e al K = cOp P p₀ ⟨d, op, t, p, a, none⟩ (opnd e) h (kH P p₀ all h r d e al K) := fun hn => by
  show (if isAlloc ⟨d, op, t, p, a, none⟩ = true then _ else _) = _
  rw [hn]; rfl
theorem h_when {all r : List Oper} {e : Ev} {h : Hp} {al : List (Tmp × Value)} {K : Ev → List (Tmp × Value) → Prop} {d : Option Tmp} {t : TypeId} {p : String} {a : Array Edge} {op : Op} {j : Nat} {w : Bool} : wHead P p₀ all h (⟨d, op, t, p, a, some (j, w)⟩ :: r) e al K = sY P p₀ all h ⟨d, op, t, p, a, none⟩ r d e al K w (gGet e ((all[j]?).bind (·.dst))) := by
  have e1 : ∀ K', cOp P p₀ ⟨d, op, t, p, a, some (j, w)⟩ (opnd e) h K' = cOp P p₀ ⟨d, op, t, p, a, none⟩ (opnd e) h K' := fun K' => by cases op <;> rfl
  have e2 : guardE all e j = gGet e ((all[j]?).bind (·.dst)) := by unfold guardE gGet; rfl
  show (∃ b, gB w (guardE all e j) = some b ∧ (if b = true then cOp P p₀ ⟨d, op, t, p, a, some (j, w)⟩ (opnd e) h (kH P p₀ all h r d e al K) else _)) = _
  rw [e1, e2]; rfl
theorem r_move {E : Operand → AV} {h : Hp} {d : Option Tmp} {t : TypeId} {p : String} {a : Array Edge} {g : Option (Nat × Bool)} {x : Operand} {K : AV → Prop} : rOp P ⟨d, .move x, t, p, a, g⟩ E h K = K (E x) := Eq.trans rfl rfl
theorem r_assign {E : Operand → AV} {h : Hp} {d : Option Tmp} {t : TypeId} {p : String} {a : Array Edge} {g : Option (Nat × Bool)} {x : Operand} {K : AV → Prop} : rOp P ⟨d, .assign x, t, p, a, g⟩ E h K = K (E x) := Eq.trans rfl rfl
theorem r_pick {E : Operand → AV} {h : Hp} {d : Option Tmp} {t : TypeId} {p : String} {a : Array Edge} {g : Option (Nat × Bool)} {c x y : Operand} {K : AV → Prop} : rOp P ⟨d, .pick c x y, t, p, a, g⟩ E h K = sP K (E c) (E x) (E y) := Eq.trans rfl rfl
theorem r_build {E : Operand → AV} {h : Hp} {d : Option Tmp} {t : TypeId} {p : String} {a : Array Edge} {g : Option (Nat × Bool)} {T : TypeId} {parts : Array (Nat × Operand)} {K : AV → Prop} : rOp P ⟨d, .build T parts, t, p, a, g⟩ E h K = sG K (buildA P h T (parts.toList.map fun p => (p.1, E p.2))) := Eq.trans rfl rfl
theorem r_load {E : Operand → AV} {h : Hp} {d : Option Tmp} {t : TypeId} {p : String} {a : Array Edge} {g : Option (Nat × Bool)} {T : TypeId} {x : Operand} {K : AV → Prop} : rOp P ⟨d, .load T x, t, p, a, g⟩ E h K = (szP P T ≠ some 0 ∧ sA K (loadA P h T (E x))) := Eq.trans rfl rfl
theorem r_nilCheck {E : Operand → AV} {h : Hp} {d : Option Tmp} {t : TypeId} {p : String} {a : Array Edge} {g : Option (Nat × Bool)} {x : Operand} {K : AV → Prop} : rOp P ⟨d, .nilCheck x, t, p, a, g⟩ E h K = sN K (E x) (nilPA h (E x)) := Eq.trans rfl rfl
theorem r_binOp {E : Operand → AV} {h : Hp} {d : Option Tmp} {t : TypeId} {p : String} {a : Array Edge} {g : Option (Nat × Bool)} {op : BinOp} {T ty : TypeId} {x y : Operand} {K : AV → Prop} : rOp P ⟨d, .binOp op T x y ty, t, p, a, g⟩ E h K = sV K (binA P h op T (E x) (E y)) := Eq.trans rfl rfl
theorem r_unOp {E : Operand → AV} {h : Hp} {d : Option Tmp} {t : TypeId} {p : String} {a : Array Edge} {g : Option (Nat × Bool)} {op : UnOp} {T : TypeId} {x : Operand} {K : AV → Prop} : rOp P ⟨d, .unOp op T x, t, p, a, g⟩ E h K = sV K (unA op (E x)) := Eq.trans rfl rfl
theorem r_convert {E : Operand → AV} {h : Hp} {d : Option Tmp} {t : TypeId} {p : String} {a : Array Edge} {g : Option (Nat × Bool)} {s u : TypeId} {x : Operand} {K : AV → Prop} : rOp P ⟨d, .convert s u x, t, p, a, g⟩ E h K = sV K (convA P h s u (E x)) := Eq.trans rfl rfl
theorem r_fieldAddr {E : Operand → AV} {h : Hp} {d : Option Tmp} {t : TypeId} {p : String} {a : Array Edge} {g : Option (Nat × Bool)} {S : TypeId} {f : Nat} {x : Operand} {K : AV → Prop} : rOp P ⟨d, .fieldAddr S x f, t, p, a, g⟩ E h K = sA K (faddrA P h S (E x) f) := Eq.trans rfl rfl
theorem r_field {E : Operand → AV} {h : Hp} {d : Option Tmp} {t : TypeId} {p : String} {a : Array Edge} {g : Option (Nat × Bool)} {S : TypeId} {f : Nat} {x : Operand} {K : AV → Prop} : rOp P ⟨d, .field S x f, t, p, a, g⟩ E h K = sA K (fieldA P S (E x) f) := Eq.trans rfl rfl
theorem r_extract {E : Operand → AV} {h : Hp} {d : Option Tmp} {t : TypeId} {p : String} {a : Array Edge} {g : Option (Nat × Bool)} {i : Nat} {x : Operand} {K : AV → Prop} : rOp P ⟨d, .extract x i, t, p, a, g⟩ E h K = sA K (extrA (E x) i) := Eq.trans rfl rfl
theorem r_ifc {E : Operand → AV} {h : Hp} {d : Option Tmp} {t : TypeId} {p : String} {a : Array Edge} {g : Option (Nat × Bool)} {T : TypeId} {x : Operand} {K : AV → Prop} : rOp P ⟨d, .makeInterface T x, t, p, a, g⟩ E h K = (ifcP P T = true ∧ K (.ifc T (E x))) := Eq.trans rfl rfl
theorem w_ifc {E : Operand → AV} {h : Hp} {d : Option Tmp} {t : TypeId} {p : String} {a : Array Edge} {g : Option (Nat × Bool)} {T : TypeId} {x : Operand} {K : AV → Hp → Prop} : wOp P p₀ ⟨d, .makeInterface T x, t, p, a, g⟩ E h K = (ifcP P T = true ∧ K (.ifc T (E x)) h) := Eq.trans rfl rfl
theorem q_ifc {E : Operand → AV} {h : Hp} {d : Option Tmp} {t : TypeId} {p : String} {a : Array Edge} {g : Option (Nat × Bool)} {T : TypeId} {x : Operand} {K : AV → Prop} : cOp P p₀ ⟨d, .makeInterface T x, t, p, a, g⟩ E h K = (ifcP P T = true ∧ K (.ifc T (E x))) := Eq.trans rfl rfl
theorem w_lookup {E : Operand → AV} {h : Hp} {d : Option Tmp} {t : TypeId} {p : String} {a : Array Edge} {g : Option (Nat × Bool)} {T : TypeId} {x k : Operand} {ok : Bool} {K : AV → Hp → Prop} : wOp P p₀ ⟨d, .lookup T x k ok, t, p, a, g⟩ E h K = sA (kR K h) (lookupA P h T (E x) (E k) ok) := Eq.trans rfl rfl
theorem q_lookup {E : Operand → AV} {h : Hp} {d : Option Tmp} {t : TypeId} {p : String} {a : Array Edge} {g : Option (Nat × Bool)} {T : TypeId} {x k : Operand} {ok : Bool} {K : AV → Prop} : cOp P p₀ ⟨d, .lookup T x k ok, t, p, a, g⟩ E h K = sA K (lookupA P h T (E x) (E k) ok) := Eq.trans rfl rfl
theorem w_makeMap {E : Operand → AV} {h : Hp} {d : Option Tmp} {t : TypeId} {p : String} {a : Array Edge} {g : Option (Nat × Bool)} {T : TypeId} {K : AV → Hp → Prop} : wOp P p₀ ⟨d, .makeMap T none, t, p, a, g⟩ E h K = K (.mp h.length) (h ++ [some (.map [])]) := propext ⟨fun q => q.2, fun q => ⟨rfl, q⟩⟩
theorem w_mapUpdate {E : Operand → AV} {h : Hp} {d : Option Tmp} {t : TypeId} {p : String} {a : Array Edge} {g : Option (Nat × Bool)} {T : TypeId} {m k x : Operand} {K : AV → Hp → Prop} : wOp P p₀ ⟨d, .mapUpdate T m k x, t, p, a, g⟩ E h K = sH K (updateA P h T (E m) (E k) (E x)) := Eq.trans rfl rfl
theorem w_insert {E : Operand → AV} {h : Hp} {d : Option Tmp} {t : TypeId} {p : String} {a : Array Edge} {g : Option (Nat × Bool)} {T : TypeId} {m k x : Operand} {K : AV → Hp → Prop} : wOp P p₀ ⟨d, .insert T m k x, t, p, a, g⟩ E h K = sH K (updateA P h T (E m) (E k) (E x)) := Eq.trans rfl rfl
def sPan (p : AV → Hp → Prop) (h : Hp) (x : AV) : Prop := ∃ T a, x = .ifc T a ∧ p (.ifc T a) h
theorem sPan_ifc {h : Hp} {T : TypeId} {x : AV} : sPan p₀ h (.ifc T x) = p₀ (.ifc T x) h := propext ⟨fun ⟨_, _, e, q⟩ => by cases e; exact q, fun q => ⟨_, _, rfl, q⟩⟩
theorem w_panic {E : Operand → AV} {h : Hp} {d : Option Tmp} {t : TypeId} {p : String} {a : Array Edge} {g : Option (Nat × Bool)} {x : Operand} {K : AV → Hp → Prop} : wOp P p₀ ⟨d, .panic x, t, p, a, g⟩ E h K = sPan p₀ h (E x) := Eq.trans rfl rfl
theorem w_move {E : Operand → AV} {h : Hp} {d : Option Tmp} {t : TypeId} {p : String} {a : Array Edge} {g : Option (Nat × Bool)} {x : Operand} {K : AV → Hp → Prop} : wOp P p₀ ⟨d, .move x, t, p, a, g⟩ E h K = rOp P ⟨d, .move x, t, p, a, g⟩ E h (kR K h) := Eq.trans rfl rfl
theorem q_move {E : Operand → AV} {h : Hp} {d : Option Tmp} {t : TypeId} {p : String} {a : Array Edge} {g : Option (Nat × Bool)} {x : Operand} {K : AV → Prop} : cOp P p₀ ⟨d, .move x, t, p, a, g⟩ E h K = rOp P ⟨d, .move x, t, p, a, g⟩ E h K := Eq.trans rfl rfl
theorem w_assign {E : Operand → AV} {h : Hp} {d : Option Tmp} {t : TypeId} {p : String} {a : Array Edge} {g : Option (Nat × Bool)} {x : Operand} {K : AV → Hp → Prop} : wOp P p₀ ⟨d, .assign x, t, p, a, g⟩ E h K = rOp P ⟨d, .assign x, t, p, a, g⟩ E h (kR K h) := Eq.trans rfl rfl
theorem q_assign {E : Operand → AV} {h : Hp} {d : Option Tmp} {t : TypeId} {p : String} {a : Array Edge} {g : Option (Nat × Bool)} {x : Operand} {K : AV → Prop} : cOp P p₀ ⟨d, .assign x, t, p, a, g⟩ E h K = rOp P ⟨d, .assign x, t, p, a, g⟩ E h K := Eq.trans rfl rfl
theorem w_pick {E : Operand → AV} {h : Hp} {d : Option Tmp} {t : TypeId} {p : String} {a : Array Edge} {g : Option (Nat × Bool)} {c x y : Operand} {K : AV → Hp → Prop} : wOp P p₀ ⟨d, .pick c x y, t, p, a, g⟩ E h K = rOp P ⟨d, .pick c x y, t, p, a, g⟩ E h (kR K h) := Eq.trans rfl rfl
theorem q_pick {E : Operand → AV} {h : Hp} {d : Option Tmp} {t : TypeId} {p : String} {a : Array Edge} {g : Option (Nat × Bool)} {c x y : Operand} {K : AV → Prop} : cOp P p₀ ⟨d, .pick c x y, t, p, a, g⟩ E h K = rOp P ⟨d, .pick c x y, t, p, a, g⟩ E h K := Eq.trans rfl rfl
theorem w_build {E : Operand → AV} {h : Hp} {d : Option Tmp} {t : TypeId} {p : String} {a : Array Edge} {g : Option (Nat × Bool)} {T : TypeId} {parts : Array (Nat × Operand)} {K : AV → Hp → Prop} : wOp P p₀ ⟨d, .build T parts, t, p, a, g⟩ E h K = rOp P ⟨d, .build T parts, t, p, a, g⟩ E h (kR K h) := Eq.trans rfl rfl
theorem q_build {E : Operand → AV} {h : Hp} {d : Option Tmp} {t : TypeId} {p : String} {a : Array Edge} {g : Option (Nat × Bool)} {T : TypeId} {parts : Array (Nat × Operand)} {K : AV → Prop} : cOp P p₀ ⟨d, .build T parts, t, p, a, g⟩ E h K = rOp P ⟨d, .build T parts, t, p, a, g⟩ E h K := Eq.trans rfl rfl
theorem w_load {E : Operand → AV} {h : Hp} {d : Option Tmp} {t : TypeId} {p : String} {a : Array Edge} {g : Option (Nat × Bool)} {T : TypeId} {x : Operand} {K : AV → Hp → Prop} : wOp P p₀ ⟨d, .load T x, t, p, a, g⟩ E h K = rOp P ⟨d, .load T x, t, p, a, g⟩ E h (kR K h) := Eq.trans rfl rfl
theorem q_load {E : Operand → AV} {h : Hp} {d : Option Tmp} {t : TypeId} {p : String} {a : Array Edge} {g : Option (Nat × Bool)} {T : TypeId} {x : Operand} {K : AV → Prop} : cOp P p₀ ⟨d, .load T x, t, p, a, g⟩ E h K = rOp P ⟨d, .load T x, t, p, a, g⟩ E h K := Eq.trans rfl rfl
theorem w_nilCheck {E : Operand → AV} {h : Hp} {d : Option Tmp} {t : TypeId} {p : String} {a : Array Edge} {g : Option (Nat × Bool)} {x : Operand} {K : AV → Hp → Prop} : wOp P p₀ ⟨d, .nilCheck x, t, p, a, g⟩ E h K = rOp P ⟨d, .nilCheck x, t, p, a, g⟩ E h (kR K h) := Eq.trans rfl rfl
theorem q_nilCheck {E : Operand → AV} {h : Hp} {d : Option Tmp} {t : TypeId} {p : String} {a : Array Edge} {g : Option (Nat × Bool)} {x : Operand} {K : AV → Prop} : cOp P p₀ ⟨d, .nilCheck x, t, p, a, g⟩ E h K = rOp P ⟨d, .nilCheck x, t, p, a, g⟩ E h K := Eq.trans rfl rfl
theorem w_binOp {E : Operand → AV} {h : Hp} {d : Option Tmp} {t : TypeId} {p : String} {a : Array Edge} {g : Option (Nat × Bool)} {op : BinOp} {T ty : TypeId} {x y : Operand} {K : AV → Hp → Prop} : wOp P p₀ ⟨d, .binOp op T x y ty, t, p, a, g⟩ E h K = rOp P ⟨d, .binOp op T x y ty, t, p, a, g⟩ E h (kR K h) := Eq.trans rfl rfl
theorem q_binOp {E : Operand → AV} {h : Hp} {d : Option Tmp} {t : TypeId} {p : String} {a : Array Edge} {g : Option (Nat × Bool)} {op : BinOp} {T ty : TypeId} {x y : Operand} {K : AV → Prop} : cOp P p₀ ⟨d, .binOp op T x y ty, t, p, a, g⟩ E h K = rOp P ⟨d, .binOp op T x y ty, t, p, a, g⟩ E h K := Eq.trans rfl rfl
theorem w_unOp {E : Operand → AV} {h : Hp} {d : Option Tmp} {t : TypeId} {p : String} {a : Array Edge} {g : Option (Nat × Bool)} {op : UnOp} {T : TypeId} {x : Operand} {K : AV → Hp → Prop} : wOp P p₀ ⟨d, .unOp op T x, t, p, a, g⟩ E h K = rOp P ⟨d, .unOp op T x, t, p, a, g⟩ E h (kR K h) := Eq.trans rfl rfl
theorem q_unOp {E : Operand → AV} {h : Hp} {d : Option Tmp} {t : TypeId} {p : String} {a : Array Edge} {g : Option (Nat × Bool)} {op : UnOp} {T : TypeId} {x : Operand} {K : AV → Prop} : cOp P p₀ ⟨d, .unOp op T x, t, p, a, g⟩ E h K = rOp P ⟨d, .unOp op T x, t, p, a, g⟩ E h K := Eq.trans rfl rfl
theorem w_convert {E : Operand → AV} {h : Hp} {d : Option Tmp} {t : TypeId} {p : String} {a : Array Edge} {g : Option (Nat × Bool)} {s u : TypeId} {x : Operand} {K : AV → Hp → Prop} : wOp P p₀ ⟨d, .convert s u x, t, p, a, g⟩ E h K = sA (kR K h) (cvA P h s u (E x)) := Eq.trans rfl rfl
theorem q_convert {E : Operand → AV} {h : Hp} {d : Option Tmp} {t : TypeId} {p : String} {a : Array Edge} {g : Option (Nat × Bool)} {s u : TypeId} {x : Operand} {K : AV → Prop} : cOp P p₀ ⟨d, .convert s u x, t, p, a, g⟩ E h K = sV K (convA P [] s u (E x)) := Eq.trans rfl rfl
theorem w_fieldAddr {E : Operand → AV} {h : Hp} {d : Option Tmp} {t : TypeId} {p : String} {a : Array Edge} {g : Option (Nat × Bool)} {S : TypeId} {f : Nat} {x : Operand} {K : AV → Hp → Prop} : wOp P p₀ ⟨d, .fieldAddr S x f, t, p, a, g⟩ E h K = rOp P ⟨d, .fieldAddr S x f, t, p, a, g⟩ E h (kR K h) := Eq.trans rfl rfl
theorem q_fieldAddr {E : Operand → AV} {h : Hp} {d : Option Tmp} {t : TypeId} {p : String} {a : Array Edge} {g : Option (Nat × Bool)} {S : TypeId} {f : Nat} {x : Operand} {K : AV → Prop} : cOp P p₀ ⟨d, .fieldAddr S x f, t, p, a, g⟩ E h K = rOp P ⟨d, .fieldAddr S x f, t, p, a, g⟩ E h K := Eq.trans rfl rfl
theorem w_field {E : Operand → AV} {h : Hp} {d : Option Tmp} {t : TypeId} {p : String} {a : Array Edge} {g : Option (Nat × Bool)} {S : TypeId} {f : Nat} {x : Operand} {K : AV → Hp → Prop} : wOp P p₀ ⟨d, .field S x f, t, p, a, g⟩ E h K = rOp P ⟨d, .field S x f, t, p, a, g⟩ E h (kR K h) := Eq.trans rfl rfl
theorem q_field {E : Operand → AV} {h : Hp} {d : Option Tmp} {t : TypeId} {p : String} {a : Array Edge} {g : Option (Nat × Bool)} {S : TypeId} {f : Nat} {x : Operand} {K : AV → Prop} : cOp P p₀ ⟨d, .field S x f, t, p, a, g⟩ E h K = rOp P ⟨d, .field S x f, t, p, a, g⟩ E h K := Eq.trans rfl rfl
theorem w_extract {E : Operand → AV} {h : Hp} {d : Option Tmp} {t : TypeId} {p : String} {a : Array Edge} {g : Option (Nat × Bool)} {i : Nat} {x : Operand} {K : AV → Hp → Prop} : wOp P p₀ ⟨d, .extract x i, t, p, a, g⟩ E h K = rOp P ⟨d, .extract x i, t, p, a, g⟩ E h (kR K h) := Eq.trans rfl rfl
theorem q_extract {E : Operand → AV} {h : Hp} {d : Option Tmp} {t : TypeId} {p : String} {a : Array Edge} {g : Option (Nat × Bool)} {i : Nat} {x : Operand} {K : AV → Prop} : cOp P p₀ ⟨d, .extract x i, t, p, a, g⟩ E h K = rOp P ⟨d, .extract x i, t, p, a, g⟩ E h K := Eq.trans rfl rfl
end
end Go.Proofs.YtljfgdlgmdcmfaaGreat.Wv
