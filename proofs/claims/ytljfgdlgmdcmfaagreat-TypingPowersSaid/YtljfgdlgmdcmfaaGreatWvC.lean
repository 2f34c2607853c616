/- The machine of abstract values: append. -/
import Derived.Test.YtljfgdlgmdcmfaaGreatWvB
import Derived.Deep.AppendSrc
namespace Go.Proofs.YtljfgdlgmdcmfaaGreat.Wv
open Go.RowKit
set_option linter.unusedVariables false
set_option autoImplicit false

/-- Cells written in a row. -/
def splice (c : Array Value) : Nat → List Value → Array Value
  | _, [] => c
  | o, v :: r => splice (c.setIfInBounds o v) (o + 1) r
theorem splice_size : ∀ (vs : List Value) (o : Nat) (c : Array Value), (splice c o vs).size = c.size
  | [], _, _ => rfl
  | v :: r, o, c => by unfold splice; rw [splice_size r]; simp
theorem splice_get : ∀ (vs : List Value) (o : Nat) (c : Array Value) (i : Nat), o + vs.length ≤ c.size → (splice c o vs)[i]? = if o ≤ i ∧ i < o + vs.length then vs[i - o]? else c[i]?
  | [], o, c, i, _ => by
    unfold splice
    rw [if_neg (by simp only [List.length_nil]; omega)]
  | v :: r, o, c, i, h => by
    simp only [List.length_cons] at h
    unfold splice
    rw [splice_get r (o + 1) _ i (by simp; omega)]
    simp only [List.length_cons]
    by_cases e : i = o
    · subst e
      rw [if_neg (by omega), if_pos (by omega), Array.getElem?_setIfInBounds_self, if_pos (by omega)]
      simp
    · by_cases h1 : o + 1 ≤ i ∧ i < o + 1 + r.length
      · rw [if_pos h1, if_pos (by omega), show i - o = (i - (o + 1)) + 1 by omega, List.getElem?_cons_succ]
      · rw [if_neg h1, if_neg (by omega), Array.getElem?_setIfInBounds_ne (by omega)]
theorem heap_setCells {b : Nat} {T : TypeId} {fr : Nat × Nat} : ∀ (vs : List Value) (o : Nat) (w : World) (c : Array Value), w.heap[b]? = some (.cells c T fr) → (w.setCells b o vs).heap[b]? = some (.cells (splice c o vs) T fr)
  | [], _, _, _, h => h
  | v :: r, o, w, c, h => heap_setCells r (o + 1) _ _ (heap_set_same h v)
theorem heap_setCells_far {b k : Nat} (hk : k ≠ b) : ∀ (vs : List Value) (o : Nat) (w : World), (w.setCells b o vs).heap[k]? = w.heap[k]?
  | [], _, _ => rfl
  | v :: r, o, w => by
    rw [World.setCells, heap_setCells_far hk r, Below.heap_setCell _ _ _ _ hk]
theorem size_setCells {b : Nat} : ∀ (vs : List Value) (o : Nat) (w : World), (w.setCells b o vs).heap.size = w.heap.size
  | [], _, _ => rfl
  | v :: r, o, w => by rw [World.setCells, size_setCells r]; simp [World.setCell]
theorem other_setCells {b : Nat} : ∀ (vs : List Value) (o : Nat) (w : World), (w.setCells b o vs).os = w.os ∧ (w.setCells b o vs).tape = w.tape ∧ (w.setCells b o vs).output = w.output
  | [], _, _ => ⟨rfl, rfl, rfl⟩
  | v :: r, o, w => by rw [World.setCells]; exact other_setCells r _ _

/-- A longer array, in its block or in a new one. -/
theorem grow_step {X : Cx} (hX : Ok X) {id : Nat} {T : TypeId} {s n m fz g cap : Nat} {cells newA : List AV} (h : X.h[id]? = some (some (.arr T s cells fz))) (hn : cells.length = n * s) (hm : newA.length = m * s) (hm0 : 0 < m)
    (w' : World) (hos : w'.os = X.w.os) (htape : w'.tape = X.w.tape) (hout : w'.output = X.w.output) (hsize : X.w.heap.size ≤ w'.heap.size)
    (hblk : ∀ k, k < X.w.heap.size → (X.m id).1 ≠ some k → w'.heap[k]? = X.w.heap[k]?)
    (hkeep : ∀ b o x, (X.m id).1 = some b → cellAt X.w b o = some x → ¬ X.bad b o → cellAt w' b o = some x)
    (hg : ((X.m id) = (some g, cap) ∧ fz ≤ cells.length) ∨ (X.w.heap.size ≤ g ∧ g < w'.heap.size)) :
    ∃ Y : Cx, Y.w = w' ∧ Y.m id = (some g, cap) ∧ Y.h = X.h.set id (some (.arr T s (cells ++ newA) fz)) ∧ (∀ b o, Y.bad b o ↔ X.bad b o ∨ ((X.w.heap.size ≤ g) ∧ b = g ∧ fz ≤ o)) ∧ (∀ i, i ≠ id → Y.m i = X.m i) ∧ Step X Y := by
  have hid : id < X.h.length := (List.getElem?_eq_some_iff.1 h).1
  refine ⟨⟨w', fun i => if i = id then (some g, cap) else X.m i, X.h.set id (some (.arr T s (cells ++ newA) fz)), fun b o => X.bad b o ∨ (X.w.heap.size ≤ g ∧ b = g ∧ fz ≤ o), X.ds⟩, rfl, by simp, rfl, fun _ _ => Iff.rfl, fun i hi => by simp [hi], ?_⟩
  refine ⟨hos, htape, hout, hsize, fun b hb hmine => ?_, fun b o x hx hb => ⟨?_, ?_⟩, by simp, fun i U s' c f hi hh => ?_, fun i c hi hh => ?_, fun c hc => ?_, fun c o' hb => .inl (.inl hb), fun i c hi hh => ?_, rfl⟩
  · exact hblk b hb fun e => hmine ⟨id, ⟨_, h⟩, e⟩
  · by_cases e : (X.m id).1 = some b
    · exact hkeep b o x e hx hb
    · unfold cellAt at hx ⊢
      rw [World.cell?_of_block (w := X.w) (hblk b (cellAt_lt hx) e)]; exact hx
  · rintro (hk | ⟨hk, rfl, _⟩)
    · exact hb hk
    · exact absurd (cellAt_lt hx) (by omega)
  · by_cases e : i = id
    · subst e
      simp only at hh
      rw [List.getElem?_set_self hid] at hh
      injection hh with hh; injection hh with hh
      injection hh with e1 e2 e3 e4; subst e1 e2 e3 e4
      have hs0 := (hX.arr i T s cells fz h).2.1
      refine ⟨cells, fz, h, by simp, fun el => ?_⟩
      rw [List.length_append] at el
      have : newA.length = 0 := by omega
      rw [hm] at this
      rcases Nat.mul_eq_zero.1 this with h0 | h0 <;> omega
    · simp only at hh
      rw [set_h e] at hh
      exact ⟨c, f, hh, Nat.le_refl _, fun _ => by simp [e]⟩
  · by_cases e : i = id
    · subst e
      simp only at hh
      rw [List.getElem?_set_self hid] at hh
      injection hh with hh; cases hh
    · simp only at hh
      rw [set_h e] at hh
      exact ⟨c, hh, by simp [e]⟩
  · obtain ⟨i, ⟨o', ho⟩, he⟩ := hc
    by_cases e : i = id
    · subst e
      simp only [if_true] at he
      injection he with he; subst he
      rcases hg with hg | hg
      · exact .inr ⟨i, ⟨_, h⟩, by rw [hg.1]⟩
      · exact .inl hg.1
    · simp only at ho he
      rw [set_h e] at ho
      rw [if_neg e] at he
      exact .inr ⟨i, ⟨o', ho⟩, he⟩
  · by_cases e : i = id
    · subst e
      simp only at hh
      rw [List.getElem?_set_self hid] at hh
      injection hh with hh; cases hh
    · simp only at hh
      rw [set_h e] at hh
      exact ⟨c, hh, by simp [e]⟩

theorem grow_ok {X Y : Cx} (hX : Ok X) {id : Nat} {T : TypeId} {s n m fz g cap : Nat} {cells newA : List AV} {cvs : Array Value} (h : X.h[id]? = some (some (.arr T s cells fz))) (hn : cells.length = n * s) (hm : newA.length = m * s)
    (e1 : Y.m id = (some g, cap)) (e2 : Y.h = X.h.set id (some (.arr T s (cells ++ newA) fz))) (e3 : ∀ b o, Y.bad b o ↔ X.bad b o ∨ ((X.w.heap.size ≤ g) ∧ b = g ∧ fz ≤ o)) (e4 : ∀ i, i ≠ id → Y.m i = X.m i) (S : Step X Y)
    (hblk : ∀ k, k < X.w.heap.size → (X.m id).1 ≠ some k → Y.w.heap[k]? = X.w.heap[k]?)
    (hg : ((X.m id) = (some g, cap) ∧ fz ≤ cells.length) ∨ (X.w.heap.size ≤ g ∧ g < Y.w.heap.size))
    (hc1 : Y.w.heap[g]? = some (.cells cvs T (0, 0))) (hc2 : n + m ≤ cap) (hc3 : cap ≤ maxLen) (hc4 : cvs.size = cap * s) (hrep : ∀ (i : Nat) (a : AV) (x : Value), (cells ++ newA)[i]? = some a → cvs[i]? = some x → Rep X a x) : Ok Y := by
  have hid : id < X.h.length := (List.getElem?_eq_some_iff.1 h).1
  have hlive : ∀ i, Y.live i → X.live i := by
    intro i ⟨o', ho⟩
    by_cases e : i = id
    · subst e; exact ⟨_, h⟩
    · rw [e2, set_h e] at ho
      exact ⟨o', ho⟩
  have hfar : ∀ i c, i ≠ id → X.live i → (X.m i).1 = some c → ¬ (X.m id).1 = some c := fun i c hi hl hc e => hi (hX.inj i id c hl ⟨_, h⟩ hc e)
  have hnew0 : ∀ k c', k ≠ id → X.live k → (X.m k).1 = some c' → c' ≠ g := by
    intro k c' hk hl he eg
    rcases hg with hg | hg
    · exact hk (hX.inj k id c' hl ⟨_, h⟩ he (by rw [hg.1, eg]))
    · exact absurd (hX.lt ⟨k, hl, he⟩) (by omega)
  refine ⟨fun i c hh => ?_, fun i U s' c f hh => ?_, fun i j c hi hj ei ej => ?_, fun c o' hc => ?_, fun i es hh => ?_⟩
  · by_cases e : i = id
    · subst e
      rw [e2, List.getElem?_set_self hid] at hh
      injection hh with hh; cases hh
    · rw [e2, set_h e] at hh
      obtain ⟨b', cvs', T', h1, h2, h3, h4, h5⟩ := hX.blk i c hh
      refine ⟨b', cvs', T', by rw [e4 i e]; exact h1, ?_, h3, fun o => (e3 _ _).2 (.inl (h4 o)), fun j a' y h6 h7 => (h5 j a' y h6 h7).mono S⟩
      rw [hblk b' (hX.lt ⟨i, ⟨_, hh⟩, h1⟩) (hfar i b' e ⟨_, hh⟩ h1)]; exact h2
  · by_cases e : i = id
    · subst e
      rw [e2, List.getElem?_set_self hid] at hh
      injection hh with hh; injection hh with hh
      injection hh with q1 q2 q3 q4; subst q1 q2 q3 q4
      obtain ⟨g1, g2, n', g3, g4⟩ := hX.arr i T s cells fz h
      refine ⟨by simp; omega, g2, n + m, by rw [List.length_append, hn, hm, Nat.add_mul], .inr ⟨g, cvs, ⟨by rw [e1], hc1, by rw [e1]; exact hc2, by rw [e1]; exact hc3, by rw [e1]; exact hc4, fun o ho => ?_, fun j a' y h6 h7 => (hrep j a' y h6 h7).mono S, fun o ho hk => ?_⟩⟩⟩
      rcases hg with ⟨hg, _⟩ | hg
      · rcases g4 with g4 | ⟨b', c2, g4⟩
        · rw [g4.1] at hg; cases hg
        · have := g4.at_
          rw [hg] at this; injection this with this; subst this
          exact (e3 _ _).2 (.inl (g4.bad o ho))
      · exact (e3 _ _).2 (.inr ⟨hg.1, rfl, ho⟩)
      · rcases (e3 _ _).1 hk with hk | hk
        · rcases hg with ⟨hg, _⟩ | hg
          · rcases g4 with g4 | ⟨b', c2, g4⟩
            · rw [g4.1] at hg; cases hg
            · have := g4.at_
              rw [hg] at this; injection this with this; subst this
              exact g4.good o ho hk
          · exact absurd (hX.badlt _ _ hk) (by omega)
        · omega
    · rw [e2, set_h e] at hh
      obtain ⟨g1, g2, n', g3, g4⟩ := hX.arr i U s' c f hh
      refine ⟨g1, g2, n', g3, ?_⟩
      rcases g4 with g4 | ⟨b', c2, g4⟩
      · exact .inl ⟨by rw [e4 i e]; exact g4.1, g4.2⟩
      · refine .inr ⟨b', c2, ⟨by rw [e4 i e]; exact g4.at_, ?_, by rw [e4 i e]; exact g4.cap, by rw [e4 i e]; exact g4.capm, by rw [e4 i e]; exact g4.sz, fun o ho => (e3 _ _).2 (.inl (g4.bad o ho)), fun j a' y h6 h7 => (g4.rep j a' y h6 h7).mono S, fun o ho hk => ((e3 _ _).1 hk).elim (g4.good o ho) (fun q => hnew0 i b' e ⟨_, hh⟩ g4.at_ q.2.1)⟩⟩
        rw [hblk b' (hX.lt ⟨i, ⟨_, hh⟩, g4.at_⟩) (hfar i b' e ⟨_, hh⟩ g4.at_)]; exact g4.blk
  · have hnew : ∀ k c', k ≠ id → Y.live k → (Y.m k).1 = some c' → c' ≠ g := by
      intro k c' hk hl he eg
      rw [e4 k hk] at he
      rcases hg with hg | hg
      · exact hk (hX.inj k id c' (hlive k hl) ⟨_, h⟩ he (by rw [hg.1, eg]))
      · exact absurd (hX.lt ⟨k, hlive k hl, he⟩) (by omega)
    by_cases ii : i = id
    · subst ii
      rw [e1] at ei; injection ei with ei
      by_cases jj : j = i
      · exact jj.symm
      · exact absurd ei.symm (hnew j c jj hj ej)
    · by_cases jj : j = id
      · subst jj
        rw [e1] at ej; injection ej with ej
        exact absurd ej.symm (hnew i c ii hi ei)
      · rw [e4 i ii] at ei; rw [e4 j jj] at ej
        exact hX.inj i j c (hlive i hi) (hlive j hj) ei ej
  · rcases (e3 _ _).1 hc with hc | ⟨hc, rfl, _⟩
    · exact Nat.lt_of_lt_of_le (hX.badlt c o' hc) S.size
    · rcases hg with ⟨hg, _⟩ | hg
      · exact absurd (hX.lt ⟨id, ⟨_, h⟩, by rw [hg]⟩) (by omega)
      · exact hg.2
  · by_cases e : i = id
    · subst e
      rw [e2, List.getElem?_set_self hid] at hh
      injection hh with hh; cases hh
    · rw [e2, set_h e] at hh
      obtain ⟨b', ents, clock, h1, h2, h3⟩ := hX.map i es hh
      refine ⟨b', ents, clock, by rw [e4 i e]; exact h1, ?_, h3.mono S⟩
      rw [hblk b' (hX.lt ⟨i, ⟨_, hh⟩, h1⟩) (hfar i b' e ⟨_, hh⟩ h1)]; exact h2

theorem firstCells_blk {P : Program} {w : World} {b : Nat} {T : TypeId} {c : Array Value} {size n cap : Nat} (h : w.heap[b]? = some (.cells c T (0, 0))) (hle : n * size ≤ c.size) :
    (Builtin.firstCells size n (.slice (some ⟨b, 0, none⟩) n cap)).run P w = .ok (c.toList.take (n * size)).toArray w := by
  refine run_firstCells_some w size n ⟨b, 0, none⟩ n cap _ (by simp; omega) (fun j u hu => ?_)
  rw [List.getElem?_take] at hu
  split at hu
  · next hj =>
    have : w.cell? ⟨b, j, none⟩ = c[j]? := by simp [World.cell?, h]
    have e : (⟨b, 0, none⟩ : Addr).add j = ⟨b, j, none⟩ := by
      unfold Addr.add
      split
      · next h0 => rw [h0]
      · simp
    rw [e, this]; simpa using hu
  · cases hu

theorem set_same {l : Hp} {i : Nat} {o : Option Ob} (h : l[i]? = some o) : l.set i o = l := by
  apply List.ext_getElem?
  intro j
  rw [List.getElem?_set]
  split
  · next e => subst e; split <;> simp_all
  · rfl
theorem nextcap_le {need old : Nat} (h : old < need) : Builtin.nextslicecap need old ≤ 2 * need := by
  unfold Builtin.nextslicecap
  split
  · omega
  · split
    · omega
    · have key : ∀ k c, c ≤ 2 * need → Builtin.growBy need k c ≤ 2 * need := by
        intro k
        induction k with
        | zero => intro c hc; exact hc
        | succ k ih =>
          intro c hc
          unfold Builtin.growBy
          split
          · exact hc
          · exact ih _ (by omega)
      exact key 4 old (by omega)
theorem rep_app {X : Cx} {c1 c2 : List AV} {v1 v2 : List Value} {rest : Array Value} (hl : c1.length = v1.length) (hl2 : c2.length = v2.length) (h1 : ∀ (i : Nat) (a : AV) (x : Value), c1[i]? = some a → v1[i]? = some x → Rep X a x)
    (h2 : ∀ (i : Nat) (a : AV) (x : Value), c2[i]? = some a → v2[i]? = some x → Rep X a x) : ∀ (i : Nat) (a : AV) (x : Value), (c1 ++ c2)[i]? = some a → ((v1 ++ v2).toArray ++ rest)[i]? = some x → Rep X a x := by
  intro i a x ha hx
  have hi := (List.getElem?_eq_some_iff.1 ha).1
  rw [List.length_append] at hi
  rw [Array.getElem?_append_left (by simp; omega)] at hx
  rw [List.getElem?_toArray] at hx
  by_cases e : i < c1.length
  · rw [List.getElem?_append_left e] at ha
    rw [List.getElem?_append_left (by omega)] at hx
    exact h1 i a x ha hx
  · rw [List.getElem?_append_right (by omega)] at ha
    rw [List.getElem?_append_right (by omega), ← hl] at hx
    exact h2 _ a x ha hx

/-- append where there is no room. -/
theorem append_new {P : Program} {X : Cx} (hX : Ok X) {id n m fz : Nat} {T t tx ty : TypeId} {cells newA : List AV} {olds news : List Value} {i : TypeInfo} {z x : Value}
    (h : X.h[id]? = some (some (.arr T i.size cells fz))) (hn : cells.length = n * i.size) (ht : P.underlying t = some (.slice T)) (hi : P.info? T = some i) (hz : i.zero = some z) (hzs : z.cells.size = i.size)
    (hsrc : Src P i.size tx x m news X.w) (hnl : newA.length = news.length) (hrep : ∀ (i : Nat) (a : AV) (x : Value), newA[i]? = some a → news[i]? = some x → Rep X a x)
    (h63 : n + m ≤ maxLen) (hbytes : (n + m) * i.bytes ≤ 140737488355328) (hm0 : 0 < m) (hcap : (X.m id).2 < n + m)
    (hold : (Builtin.firstCells i.size n (sliceVal (X.m id) n)).run P X.w.drew = .ok olds.toArray X.w.drew) (hol : cells.length = olds.length) (horep : ∀ (i : Nat) (a : AV) (x : Value), cells[i]? = some a → olds[i]? = some x → Rep X a x) :
    ∃ v' Y, (Builtin.append_ #[t, tx] ty #[sliceVal (X.m id) n, x]).run P X.w = .ok v' Y.w ∧ Step X Y ∧ Ok Y ∧ Y.h = X.h.set id (some (.arr T i.size (cells ++ newA) fz)) ∧ Rep Y (.own id (n + m)) v' := by
  have hid : id < X.h.length := (List.getElem?_eq_some_iff.1 h).1
  have hnewl : newA.length = m * i.size := by rw [hnl]; exact hsrc.newsLen
  have hs0 := (hX.arr id T i.size cells fz h).2.1
  have hle := grownCap_ge X.w (n + m) (X.m id).2 T
  have hmx := grownCap_le_maxLen X.w (n + m) (X.m id).2 T h63
  have hr := run_append_grow_src (P := P) X.w t tx ty T i z ht hi hz ((X.m id).1.map fun b => ⟨b, 0, none⟩) n (X.m id).2 olds hold x m news hsrc hcap (by unfold maxLen at h63; omega)
    (Nat.le_trans (Nat.mul_le_mul_right _ (nextcap_le hcap)) (by rw [Nat.mul_assoc]; omega))
  generalize hC : grownCap X.w (n + m) (X.m id).2 T = C at hr hle hmx
  have hwl : X.w.heap.size < (X.w.drew.alloc (.cells ((olds ++ news).toArray ++ Builtin.zeroCells z.cells (C - (n + m))) T)).heap.size := by simp
  obtain ⟨Y, e0, e1, e2, e3, e4, S⟩ := grow_step (g := X.w.heap.size) (cap := C) hX h hn hnewl hm0 (X.w.drew.alloc (.cells ((olds ++ news).toArray ++ Builtin.zeroCells z.cells (C - (n + m))) T)) rfl rfl rfl (by simp)
    (fun k hk _ => Below.heap_alloc X.w.drew _ k hk) (fun b o y hb hy _ => by
      have hb' := cellAt_lt hy
      unfold cellAt at hy ⊢
      rw [World.cell?_alloc_lt (h := hb')]; exact hy) (.inr ⟨Nat.le_refl _, hwl⟩)
  have hOk := grow_ok hX h hn hnewl e1 e2 e3 e4 S (by rw [e0]; exact fun k hk _ => Below.heap_alloc X.w.drew _ k hk) (.inr ⟨Nat.le_refl _, by rw [e0]; exact hwl⟩) (by rw [e0]; exact heap_alloc_new X.w.drew _) hle hmx
    (by rw [Array.size_append, size_zeroCells, hzs]; simp only [List.size_toArray, List.length_append]; rw [← hol, hn, hsrc.newsLen, ← Nat.add_mul, ← Nat.add_mul]; congr 1; omega)
    (rep_app hol hnl horep hrep)
  refine ⟨_, Y, by rw [e0]; exact hr, S, hOk, e2, .own (by rw [e2]; simpa using hid) fun U s' c f hh => ?_⟩
  rw [e2, List.getElem?_set_self hid] at hh
  injection hh with hh; injection hh with hh
  injection hh with q1 q2 q3 q4; subst q1 q2 q3 q4
  refine ⟨by rw [List.length_append, hn, hnewl, ← Nat.add_mul]; exact Nat.le_refl _, fun _ => ?_⟩
  rw [e1]; rfl

/-- append to what is owned. -/
theorem append_av {P : Program} {X : Cx} (hX : Ok X) {id n m s fz : Nat} {T t tx ty : TypeId} {cells newA : List AV} {news : List Value} {i : TypeInfo} {z x v : Value}
    (h : X.h[id]? = some (some (.arr T s cells fz))) (hn : cells.length = n * s) (ht : P.underlying t = some (.slice T)) (hi : P.info? T = some i) (hz : i.zero = some z) (hs : i.size = s) (hzs : z.cells.size = s)
    (hsrc : Src P s tx x m news X.w) (hnl : newA.length = news.length) (hrep : ∀ (i : Nat) (a : AV) (x : Value), newA[i]? = some a → news[i]? = some x → Rep X a x)
    (h63 : n + m ≤ maxLen) (hbytes : (n + m) * i.bytes ≤ 140737488355328) (hv : Rep X (.own id n) v) :
    ∃ v' Y, (Builtin.append_ #[t, tx] ty #[v, x]).run P X.w = .ok v' Y.w ∧ Step X Y ∧ Ok Y ∧ Y.h = X.h.set id (some (.arr T s (cells ++ newA) fz)) ∧ Rep Y (.own id (n + m)) v' := by
  subst hs
  have hid : id < X.h.length := (List.getElem?_eq_some_iff.1 h).1
  obtain ⟨g1, g2, n', g3, g4⟩ := hX.arr id T i.size cells fz h
  have hnn : n' = n := Nat.eq_of_mul_eq_mul_right g2 (by rw [← g3, ← hn])
  subst hnn
  have hnewl : newA.length = m * i.size := by rw [hnl]; exact hsrc.newsLen
  have hv' : v = sliceVal (X.m id) n' := by
    cases hv with
    | own _ hh => exact (hh _ _ _ _ h).2 hn
  subst hv'
  rcases Nat.eq_zero_or_pos m with rfl | hm0
  · have hn0 : newA = [] := List.eq_nil_of_length_eq_zero (by rw [hnewl]; omega)
    have hw0 : news = [] := List.eq_nil_of_length_eq_zero (by rw [← hnl, hnewl]; omega)
    subst hn0 hw0
    refine ⟨sliceVal (X.m id) n', X, ?_, Step.refl X, hX, ?_, hv⟩
    · rcases g4 with ⟨g4, g5⟩ | ⟨b, cvs, g4⟩
      · have hn0 : n' = 0 := by
          subst g5
          rcases Nat.mul_eq_zero.1 hn.symm with h0 | h0
          · exact h0
          · omega
        subst hn0
        rw [g4]
        rcases hsrc.kind with ⟨e', hk⟩ | hk <;> simp [sliceVal, Builtin.append_, run_underlying ht, run_underlying hk, sizeOf, typeInfo, hi, hsrc.len, hsrc.cells]
      · have hr := run_append_room_src (P := P) X.w t tx ty T i ht hi b 0 n' (X.m id).2 x 0 [] hsrc g4.cap (by intro j hj; simp at hj) (by intro j hj; simp at hj)
        rw [show sliceVal (X.m id) n' = .slice (some ⟨b, 0, none⟩) n' (X.m id).2 by unfold sliceVal; rw [g4.at_]; rfl]
        rw [hr]; rfl
    · rw [List.append_nil, set_same h]
  · rcases g4 with ⟨g4, g5⟩ | ⟨b, cvs, g4⟩
    · have hn0 : n' = 0 := by
        subst g5
        rcases Nat.mul_eq_zero.1 hn.symm with h0 | h0
        · exact h0
        · omega
      subst hn0
      exact append_new (olds := []) hX h hn ht hi hz hzs hsrc hnl hrep h63 hbytes hm0 (by rw [g4]; simp; omega) (by rw [g4]; exact run_firstCells_none X.w.drew i.size 0 0 0) (by rw [g5]; rfl) (fun i a x _ h2 => by simp at h2)
    · by_cases hroom : n' + m ≤ (X.m id).2
      · have hlen : n' * i.size + news.length ≤ cvs.size := by rw [g4.sz, hsrc.newsLen, ← Nat.add_mul]; exact Nat.mul_le_mul_right _ hroom
        have hr := run_append_room_src (P := P) X.w t tx ty T i ht hi b 0 n' (X.m id).2 x m news hsrc hroom
          (fun j hj => by
            have : X.w.cell? ⟨b, 0 + n' * i.size + j, none⟩ = cvs[0 + n' * i.size + j]? := cellAt_blk g4.blk
            rw [this, Array.getElem?_eq_getElem (by omega)]; rfl)
          (fun j hj => by simp [World.frozen?, g4.blk])
        rw [Nat.zero_add] at hr
        obtain ⟨o1, o2, o3⟩ := other_setCells (b := b) news (n' * i.size) X.w
        obtain ⟨Y, e0, e1, e2, e3, e4, S⟩ := grow_step (g := b) (cap := (X.m id).2) hX h hn hnewl hm0 (X.w.setCells b (n' * i.size) news) o1 o2 o3 (by rw [size_setCells]; exact Nat.le_refl _)
          (fun k hk hne => heap_setCells_far (fun e => hne (by rw [g4.at_, e])) news _ _)
          (fun b' o y hb hy hbad => by
            rw [g4.at_] at hb; injection hb with hb; subst hb
            have hlt : o < fz := Nat.lt_of_not_le fun ho => hbad (g4.bad o ho)
            rw [cellAt_blk (heap_setCells news (n' * i.size) X.w cvs g4.blk), splice_get _ _ _ _ hlen, if_neg (by omega), ← cellAt_blk g4.blk]; exact hy)
          (.inl ⟨by rw [← g4.at_], g1⟩)
        have hOk := grow_ok hX h hn hnewl e1 e2 e3 e4 S (by rw [e0]; exact fun k hk hne => heap_setCells_far (fun e => hne (by rw [g4.at_, e])) news _ _) (.inl ⟨by rw [← g4.at_], g1⟩)
          (by rw [e0]; exact heap_setCells news (n' * i.size) X.w cvs g4.blk) hroom g4.capm (by rw [splice_size]; exact g4.sz)
          (fun j a y ha hy => by
            rw [splice_get _ _ _ _ hlen] at hy
            by_cases e : j < cells.length
            · rw [List.getElem?_append_left e] at ha
              rw [if_neg (by omega)] at hy
              exact g4.rep j a y ha hy
            · have hj := (List.getElem?_eq_some_iff.1 ha).1
              rw [List.length_append] at hj
              rw [List.getElem?_append_right (by omega)] at ha
              rw [if_pos (by omega)] at hy
              exact hrep _ a y ha (by rw [hn]; exact hy))
        refine ⟨_, Y, by rw [e0, show sliceVal (X.m id) n' = .slice (some ⟨b, 0, none⟩) n' (X.m id).2 by unfold sliceVal; rw [g4.at_]; rfl]; exact hr, S, hOk, e2, .own (by rw [e2]; simpa using hid) fun U s' c f hh => ?_⟩
        rw [e2, List.getElem?_set_self hid] at hh
        injection hh with hh; injection hh with hh
        injection hh with q1 q2 q3 q4; subst q1 q2 q3 q4
        refine ⟨by rw [List.length_append, hn, hnewl, ← Nat.add_mul]; exact Nat.le_refl _, fun _ => ?_⟩
        rw [e1]; rfl
      · have hle : cells.length ≤ cvs.size := by rw [g4.sz, hn]; exact Nat.mul_le_mul_right _ g4.cap
        refine append_new (olds := cvs.toList.take cells.length) hX h hn ht hi hz hzs hsrc hnl hrep h63 hbytes hm0 (by omega) ?_ (by simp; omega) (fun j a y h1 h2 => ?_)
        · rw [show sliceVal (X.m id) n' = .slice (some ⟨b, 0, none⟩) n' (X.m id).2 by unfold sliceVal; rw [g4.at_]; rfl, hn]
          exact firstCells_blk (w := X.w.drew) g4.blk (by rw [← hn]; exact hle)
        · rw [List.getElem?_take] at h2
          split at h2
          · exact g4.rep j a y h1 (by simpa using h2)
          · cases h2
end Go.Proofs.YtljfgdlgmdcmfaaGreat.Wv
