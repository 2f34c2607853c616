/- Memory of the call's own, block by block; slices of integers by their lists. Walks of the layer of keys: secrets: SameSecret, secret, CheckSecret (both), Automorphism. Walks of the layer of keys: CheckSecret, the reference's CheckSecret and Automorphism. -/
import Derived.Test.YtjpcljnojipdnaaGreatParY
import Derived.Test.YtjpcljnojipdnaaGreatMthA
import Derived.Test.YtjpcljnojipdnaaGreatParF
/-! Memory of the call's own, block by block; slices of integers by their lists. -/
namespace Go.Proofs.YtjpcljnojipdnaaGreat
open Go.RowKit

/-- Block g consists of these cells. -/
def Blk (w : World) (g : Nat) (cs : List Value) (T : TypeId) : Prop := w.heap[g]? = some (.cells cs.toArray T (0, 0))

theorem Blk.lt {w : World} {g : Nat} {cs : List Value} {T : TypeId} (h : Blk w g cs T) : g < w.heap.size := lt_of_block h
theorem Blk.cell {w : World} {g : Nat} {cs : List Value} {T : TypeId} (h : Blk w g cs T) (i : Nat) (hi : i < cs.length) : w.cell? ⟨g, i, none⟩ = some cs[i] := by
  unfold Blk at h
  simp only [World.cell?, h, Option.isSome_none, Bool.false_eq_true, if_false]
  simp [hi]
theorem Blk.free {w : World} {g : Nat} {cs : List Value} {T : TypeId} (h : Blk w g cs T) (i : Nat) : w.frozen? ⟨g, i, none⟩ = false := by
  unfold Blk at h
  simp [World.frozen?, h]
theorem Blk.below {w w' : World} {g B : Nat} {cs : List Value} {T : TypeId} (h : Blk w g cs T) (hb : Below B w w') (hg : g < B) : Blk w' g cs T := (hb.block g hg).trans h
theorem Blk.new (w : World) (cs : Array Value) (T : TypeId) : Blk (w.alloc (.cells cs T)) w.heap.size cs.toList T := by
  unfold Blk
  show (w.heap.push _)[w.heap.size]? = _
  rw [Array.getElem?_push_size]
theorem Blk.alloc {w : World} {g : Nat} {cs : List Value} {T : TypeId} (h : Blk w g cs T) (o : Obj) : Blk (w.alloc o) g cs T := (Below.heap_alloc w o g h.lt).trans h
theorem Blk.drew {w : World} {g : Nat} {cs : List Value} {T : TypeId} (h : Blk w g cs T) : Blk w.drew g cs T := h
theorem Blk.drewN {w : World} {g : Nat} {cs : List Value} {T : TypeId} (h : Blk w g cs T) (n : Nat) : Blk (w.drewN n) g cs T := h
theorem Blk.other {w : World} {g : Nat} {cs : List Value} {T : TypeId} (h : Blk w g cs T) {a : Addr} (ha : g ≠ a.block) (u : Value) : Blk (w.setCell a u) g cs T := (Below.heap_setCell w a u g ha).trans h
theorem Blk.set {w : World} {g : Nat} {cs : List Value} {T : TypeId} (h : Blk w g cs T) (i : Nat) (u : Value) : Blk (w.setCell ⟨g, i, none⟩ u) g (cs.set i u) T := by
  have hlt := h.lt
  unfold Blk at h ⊢
  have h' : w.heap[g] = .cells cs.toArray T (0, 0) := by rw [Array.getElem?_eq_getElem hlt] at h; exact Option.some.inj h
  show (w.heap.modify g _)[g]? = _
  rw [Array.getElem?_eq_getElem (by simpa using hlt), Array.getElem_modify_self, h']
  simp

theorem below_at {w w' : World} {B k i : Nat} (h : Below B w w') (hk : k < B) : w'.cell? ⟨k, i, none⟩ = w.cell? ⟨k, i, none⟩ := h.cell (p := ⟨k, i, none⟩) hk

/-- The integers of a kind in a row of memory. -/
structure RowZ (k : IntKind) (w : World) (b off : Nat) (l : List Int) : Prop where
  blk : b < w.heap.size
  cell : ∀ i (h : i < l.length), w.cell? ⟨b, off + i, none⟩ = some (.int k l[i])
  rng : ∀ q, q ∈ l → (Lit.int k q).wf = true

theorem RowZ.below {k : IntKind} {w w' : World} {b off B : Nat} {l : List Int} (h : RowZ k w b off l) (hb : Below B w w') (ha : b < B) : RowZ k w' b off l :=
  ⟨Nat.lt_of_lt_of_le h.blk hb.size, fun i hi => by rw [hb.cell (p := ⟨b, _, none⟩) ha]; exact h.cell i hi, h.rng⟩

/-- A slice of integers: its value, its list. -/
def SliceZ (k : IntKind) (w : World) (v : Value) (l : List Int) : Prop :=
  ∃ (p : Option Addr) (cap : Nat), v = .slice p l.length cap ∧ l.length ≤ cap ∧ l.length ≤ 140737488351232 ∧ (l ≠ [] → ∃ b off, p = some ⟨b, off, none⟩ ∧ RowZ k w b off l)

theorem SliceZ.below {k : IntKind} {w w' : World} {v : Value} {l : List Int} (h : SliceZ k w v l) (hb : Below w.heap.size w w') : SliceZ k w' v l := by
  obtain ⟨p, cap, h1, h2, h3, h4⟩ := h
  exact ⟨p, cap, h1, h2, h3, fun hne => by obtain ⟨b, off, e, hr⟩ := h4 hne; exact ⟨b, off, e, hr.below hb hr.blk⟩⟩

theorem SliceAt.below {w w' : World} {v : Value} {l : List Nat} (h : SliceAt w v l) (hb : Below w.heap.size w w') : SliceAt w' v l := by
  obtain ⟨p, cap, h1, h2, h3, h4⟩ := h
  exact ⟨p, cap, h1, h2, h3, fun hne => by obtain ⟨b, off, e, hr⟩ := h4 hne; exact ⟨b, off, e, hr.below hb hr.blk⟩⟩

theorem SliceZ.nil (k : IntKind) (w : World) : SliceZ k w (.slice none 0 0) [] := ⟨none, 0, rfl, Nat.le_refl _, by simp, fun h => absurd rfl h⟩

/-- A block that the call owns, as a slice. -/
theorem SliceZ.ofBlk {k : IntKind} {w : World} {g : Nat} {l : List Int} {T : TypeId} (h : Blk w g (l.map (Value.int k)) T) (hl : l.length ≤ 140737488351232) (hr : ∀ q, q ∈ l → (Lit.int k q).wf = true) :
    SliceZ k w (.slice (some ⟨g, 0, none⟩) l.length l.length) l :=
  ⟨_, _, rfl, Nat.le_refl _, hl, fun _ => ⟨g, 0, rfl, h.lt, fun i hi => by
    have := h.cell i (by rw [List.length_map]; exact hi)
    rw [Nat.zero_add, this, List.getElem_map], hr⟩⟩

/-- A row that the call owns, as a slice. -/
theorem SliceZ.ofOwns {k : IntKind} {w : World} {base : Nat} {e : TypeId} {v : Value} {n : Nat} {l : List Int} (h : w.ownsRow base e 1 v n (l.map (Value.int k))) (hl : l.length ≤ 140737488351232) (hr : ∀ q, q ∈ l → (Lit.int k q).wf = true) : SliceZ k w v l := by
  have hn : l.length = n := by simpa using h.1
  rcases h.2 with ⟨rfl, h0⟩ | ⟨g, cap, cur, rfl, hb, hg, hnc, hm, hs, ht⟩
  · have : l = [] := List.length_eq_zero_iff.1 (by omega)
    subst this; exact SliceZ.nil k w
  · subst hn
    refine ⟨_, cap, rfl, hnc, hl, fun _ => ⟨g, 0, rfl, lt_of_block hg, fun i hi => ?_, hr⟩⟩
    have e1 : (cur.toList.take (l.length * 1))[i]? = (l.map (Value.int k))[i]? := by rw [ht]
    rw [List.getElem?_take, if_pos (by omega), Array.getElem?_toList, List.getElem?_map, List.getElem?_eq_getElem hi] at e1
    simp only [World.cell?, hg, Nat.zero_add, Option.isSome_none, Bool.false_eq_true, if_false]
    rw [e1]; rfl

theorem wf_i8 {z : Int} (h : (Lit.int .i8 z).wf = true) : -128 ≤ z ∧ z ≤ 127 := by
  simp [Lit.wf, IntKind.min, IntKind.max, IntKind.bits, IntKind.signed] at h; omega
theorem wf_i8_mk {z : Int} (h : -128 ≤ z ∧ z ≤ 127) : (Lit.int .i8 z).wf = true := by
  simp [Lit.wf, IntKind.min, IntKind.max, IntKind.bits, IntKind.signed]; omega
end Go.Proofs.YtjpcljnojipdnaaGreat

/-! Walks of the layer of keys: secrets: SameSecret, secret, CheckSecret (both), Automorphism. -/
namespace Go.Proofs.YtjpcljnojipdnaaGreat
open Go.RowKit

/-- A boxed struct of one slice. -/
theorem box1_cell (w : World) (v : Value) (T : TypeId) : (w.alloc (.cells #[v] T)).cell? ⟨w.heap.size, 0, none⟩ = some v := by simp [go_sem]

theorem getD_lt {l : List Int} {i : Nat} (h : i < l.length) : l.getD i 0 = l[i] := by rw [List.getD_eq_getElem?_getD, List.getElem?_eq_getElem h]; rfl

theorem list_ne_at {l m : List Int} {i : Nat} (h1 : i < l.length) (h2 : i < m.length) (h : l[i] ≠ m[i]) : l ≠ m := by
  intro e; subst e; exact h rfl

theorem list_eq_of {l m : List Int} (hl : l.length = m.length) (h : ∀ j (h1 : j < l.length) (h2 : j < m.length), l[j] = m[j]) : l = m :=
  List.ext_getElem hl (fun i h1 h2 => h i h1 h2)

set_option maxHeartbeats 1000000 in
theorem sames_any (w : World) (v1 v2 : Value) (l m : List Int) (h1 : SliceZ .i8 w v1 l) (h2 : SliceZ .i8 w v2 m) :
    Calls Tryz.prog 35 #[.agg #[v1], .agg #[v2]] w fun r w' => r = .returned (.bool (decide (l = m))) ∧ Below w.heap.size w w' := by
  obtain ⟨p, cap, rfl, hc, hc2, hrow⟩ := h1
  obtain ⟨p2, cap2, rfl, hd, hd2, hrow2⟩ := h2
  by_cases hlen : l.length = m.length
  case neg =>
    have e1 : ((l.length : Int) != (m.length : Int)) = true := bne_iff_ne.2 (by omega)
    have hR : Hid (decide (l = m) = false) := decide_eq_false (fun e => hlen (by rw [e]))
    clear hlen
    go_enter Tryz.func35, Tryz.ntmps35
    go_wp2_with fail
    go_ret
    exact ⟨ret_bool (by rw [hR.out]), ((Below.refl _ _).alloc (Nat.le_refl _) _).alloc (by simp) _⟩
  case pos =>
    have e1 : ((l.length : Int) != (m.length : Int)) = false := by rw [hlen]; simp
    have HL := Lib.hid hlen
    have hl1 : l.length ≤ m.length := by omega
    have hl2 : m.length ≤ l.length := by omega
    clear hlen
    by_cases hnil : l = []
    · subst hnil
      obtain rfl : m = [] := List.length_eq_zero_iff.1 (by have := HL.out; simp at this; omega)
      clear HL hl1 hl2 e1
      go_enter Tryz.func35, Tryz.ntmps35
      go_wp2_with fail
      go_rounds 1
      go_ret
      exact ⟨rfl, ((Below.refl _ _).alloc (Nat.le_refl _) _).alloc (by simp) _⟩
    · have hnil2 : m ≠ [] := by intro e; subst e; have := HL.out; simp at this; exact hnil this
      obtain ⟨b, off, rfl, hr⟩ := hrow hnil
      obtain ⟨b2, off2, rfl, hr2⟩ := hrow2 hnil2
      clear hnil hnil2
      go_enter Tryz.func35, Tryz.ntmps35
      go_wp2_with fail
      have hbW : Below w.heap.size w ((w.alloc (.cells #[.slice (some ⟨b, off, none⟩) l.length cap] 28)).alloc (.cells #[.slice (some ⟨b2, off2, none⟩) m.length cap2] 28)) := ((Below.refl _ _).alloc (Nat.le_refl _) _).alloc (by simp) _
      have c1 : ((w.alloc (.cells #[.slice (some ⟨b, off, none⟩) l.length cap] 28)).alloc (.cells #[.slice (some ⟨b2, off2, none⟩) m.length cap2] 28)).cell? ⟨w.heap.size, 0, none⟩ = some (.slice (some ⟨b, off, none⟩) l.length cap) := by simp [go_sem]
      have c2 : ((w.alloc (.cells #[.slice (some ⟨b, off, none⟩) l.length cap] 28)).alloc (.cells #[.slice (some ⟨b2, off2, none⟩) m.length cap2] 28)).cell? ⟨w.heap.size + 1, 0, none⟩ = some (.slice (some ⟨b2, off2, none⟩) m.length cap2) := by simp [go_sem]
      have hsz : w.heap.size + 1 + 1 ≤ ((w.alloc (.cells #[.slice (some ⟨b, off, none⟩) l.length cap] 28)).alloc (.cells #[.slice (some ⟨b2, off2, none⟩) m.length cap2] 28)).heap.size := by simp
      generalize (w.alloc (.cells #[.slice (some ⟨b, off, none⟩) l.length cap] 28)).alloc (.cells #[.slice (some ⟨b2, off2, none⟩) m.length cap2] 28) = W at hbW c1 c2 hsz ⊢
      have hrW := hr.below hbW hr.blk
      have hrW2 := hr2.below hbW hr2.blk
      have C1 := Lib.hid c1; have C2 := Lib.hid c2
      clear c1 c2
      go_loopw [5] (fun vi wr => ∃ i : Nat, vi = .int .i64 i ∧ i ≤ l.length ∧ Hid (∀ j (hj : j < i) (h1 : j < l.length) (h2 : j < m.length), l[j] = m[j]) ∧ Below W.heap.size W wr) (fun vi _ => l.length - (intOf vi).toNat)
      case atStart => exact ⟨0, rfl, by omega, by intro j hj; omega, Below.refl _ _⟩
      case round =>
        obtain ⟨i, rfl, hi, heq, hbel⟩ := hrel
        have k1 : wr.cell? ⟨w.heap.size, 0, none⟩ = some (.slice (some ⟨b, off, none⟩) l.length cap) := by rw [hbel.cell (p := ⟨_, _, none⟩) (by show w.heap.size < _; omega)]; exact C1.out
        have k2 : wr.cell? ⟨w.heap.size + 1, 0, none⟩ = some (.slice (some ⟨b2, off2, none⟩) m.length cap2) := by rw [hbel.cell (p := ⟨_, _, none⟩) (by show w.heap.size + 1 < _; omega)]; exact C2.out
        by_cases hlt : i < l.length
        · have x1 := (hrW.below hbel hrW.blk).cell i hlt
          have x2 := (hrW2.below hbel hrW2.blk).cell i (by omega)
          have i0 : (0 : Int) ≤ i := by omega
          have i1 : (i : Int) < l.length := by omega
          have i2 : (i : Int) < m.length := by omega
          obtain ⟨z1, hz1⟩ : ∃ z, z = l[i] := ⟨_, rfl⟩
          obtain ⟨z2, hz2⟩ : ∃ z, z = m[i]'(by omega) := ⟨_, rfl⟩
          rw [← hz1] at x1
          rw [← hz2] at x2
          have HZ1 := Lib.hid hz1; have HZ2 := Lib.hid hz2
          clear hz1 hz2
          by_cases he : z1 = z2
          · have e2 : (z1 != z2) = false := by rw [he]; simp
            have heq' : Hid (∀ j (hj : j < i + 1) (h1 : j < l.length) (h2 : j < m.length), l[j] = m[j]) := by
              intro j hj h1 h2
              by_cases e : j = i
              · subst e; rw [← HZ1.out, ← HZ2.out]; exact he
              · exact heq.out j (by omega) h1 h2
            clear heq he
            go_wp2_with fail
            go_quiet (fail)
            go_wp2_with fail
            go_roundw
            case rel => exact ⟨i + 1, by go_num, by omega, heq', below_drewN hbel _⟩
            case measure => simp [intOf]; omega
          · have e2 : (z1 != z2) = true := bne_iff_ne.2 he
            have hR : Hid (decide (l = m) = false) := decide_eq_false (list_ne_at hlt (by omega) (by rw [← HZ1.out, ← HZ2.out]; exact he))
            clear heq he
            go_wp2_with fail
            go_quiet (fail)
            go_wp2_with fail
            go_ret
            exact ⟨ret_bool (by rw [hR.out]), hbW.trans ((below_drewN hbel _).mono (by omega))⟩
        · have hR : Hid (decide (l = m) = true) := decide_eq_true (list_eq_of HL.out (fun j h1 h2 => heq.out j (by omega) h1 h2))
          clear heq
          go_wp2_with fail
          go_ret
          exact ⟨ret_bool (by rw [hR.out]), hbW.trans (hbel.mono (by omega))⟩

set_option maxHeartbeats 1000000 in
theorem secret_any (x : Par) (cv sv : Value) (l : List Int) (w : World) (hs : SliceZ .i8 w sv l) (hlen : l.length ≤ 140737488351232) :
    Calls Tryz.prog 76 #[x.val cv, .agg #[sv]] w fun r w' => r = .returned (.bool (secB x l)) ∧ Below w.heap.size w w' := by
  obtain ⟨p, cap, rfl, hc, hc2, hrow⟩ := hs
  unfold Par.val
  by_cases hnil : l = []
  · subst hnil
    by_cases hn : (0 : Int) = x.n
    case neg =>
      have e1 : ((0 : Int) == x.n) = false := beq_eq_false_iff_ne.2 hn
      have hR : Hid (secB x [] = false) := secB_no (.inr (.inl (by simpa using hn)))
      clear hn
      go_enter Tryz.func76, Tryz.ntmps76
      go_wp2_with fail
      go_rounds 1
      go_ret
      exact ⟨ret_bool (by rw [hR.out]), ((Below.refl _ _).alloc (Nat.le_refl _) _).alloc (by simp) _⟩
    have e1 : ((0 : Int) == x.n) = true := beq_iff_eq.2 hn
    by_cases hw : (0 : Int) = x.wt
    case neg =>
      have e2 : ((0 : Int) == x.wt) = false := beq_eq_false_iff_ne.2 hw
      have hR : Hid (secB x [] = false) := secB_no (.inr (.inr (by simpa [weight] using hw)))
      clear hw hn
      go_enter Tryz.func76, Tryz.ntmps76
      go_wp2_with fail
      go_rounds 1
      go_ret
      exact ⟨ret_bool (by rw [hR.out]), ((Below.refl _ _).alloc (Nat.le_refl _) _).alloc (by simp) _⟩
    have e2 : ((0 : Int) == x.wt) = true := beq_iff_eq.2 hw
    have hR : Hid (secB x [] = true) := secB_yes (by simp) (by simpa using hn) (by simpa [weight] using hw)
    clear hw hn
    go_enter Tryz.func76, Tryz.ntmps76
    go_wp2_with fail
    go_rounds 1
    go_ret
    exact ⟨ret_bool (by rw [hR.out]), ((Below.refl _ _).alloc (Nat.le_refl _) _).alloc (by simp) _⟩
  · obtain ⟨b, off, rfl, hr⟩ := hrow hnil
    clear hnil
    go_enter Tryz.func76, Tryz.ntmps76
    go_wp2_with fail
    have hl0 : l.length ≤ 9223372036854775807 := by omega
    have hbW : Below w.heap.size w ((w.alloc (.cells #[.int .i64 x.n, .int .u32 x.p, .int .i64 x.r, cv, .int .u32 x.sp, .int .i64 x.wt, .int .u32 x.er] 25)).alloc (.cells #[.slice (some ⟨b, off, none⟩) l.length cap] 28)) := ((Below.refl _ _).alloc (Nat.le_refl _) _).alloc (by simp) _
    go_loop [5, 7, 11] (fun vw _ vk => ∃ k : Nat, vk = .int .i64 k ∧ k ≤ l.length ∧ vw = .int .i64 (weight (l.take k)) ∧ Hid (∀ j (hj : j < k) (h1 : j < l.length), small1 l[j] = true)) (fun _ _ vk => l.length - (intOf vk).toNat)
    case atStart => exact ⟨0, rfl, by omega, rfl, by intro j hj; omega⟩
    case round =>
      obtain ⟨k, rfl, hk, rfl, hall⟩ := hrel
      by_cases hlt : k < l.length
      · have hx : ((w.alloc (.cells #[.int .i64 x.n, .int .u32 x.p, .int .i64 x.r, cv, .int .u32 x.sp, .int .i64 x.wt, .int .u32 x.er] 25)).alloc (.cells #[.slice (some ⟨b, off, none⟩) l.length cap] 28)).cell? ⟨b, off + k, none⟩ = some (.int .i8 l[k]) := (hr.below hbW hr.blk).cell k hlt
        have hwk := weight_snoc (l.take k) l[k]
        rw [← take_snoc l k hlt] at hwk
        have hwl := weight_le (l.take k)
        have htl : (l.take k).length ≤ k := List.length_take_le _ _
        have hnew := fun (hs : small1 l[k] = true) => (show Hid (∀ j (hj : j < k + 1) (h1 : j < l.length), small1 l[j] = true) from by
          intro j hj h1
          by_cases e : j = k
          · subst e; exact hs
          · exact hall.out j (by omega) h1)
        have hbadk := fun (hs : small1 l[k] = false) => (show Hid (secB x l = false) from secB_no (.inl ⟨l[k], List.getElem_mem hlt, hs⟩))
        have i0 : (0 : Int) ≤ k := by omega
        have i1 : (k : Int) < l.length := by omega
        have HN := Lib.hid hnew; have HB := Lib.hid hbadk; have HWK := Lib.hid hwk
        clear hnew hbadk hwk
        generalize l[k] = z at *
        by_cases z1 : z = -1
        · subst z1
          go_wp2_with fail
          go_round
          case rel => exact ⟨k + 1, by go_num, by omega, by rw [HWK.out]; go_num, HN.out rfl⟩
          case measure => simp [intOf]; omega
        · have f1 : (z == -1) = false := beq_eq_false_iff_ne.2 z1
          by_cases z2 : z = 1
          · subst z2
            clear f1 z1
            go_wp2_with fail
            go_round
            case rel => exact ⟨k + 1, by go_num, by omega, by rw [HWK.out]; go_num, HN.out rfl⟩
            case measure => simp [intOf]; omega
          · have f2 : (z == 1) = false := beq_eq_false_iff_ne.2 z2
            by_cases z3 : z = 0
            · subst z3
              clear f1 z1 f2 z2
              go_wp2_with fail
              go_round
              case rel => exact ⟨k + 1, by go_num, by omega, by rw [HWK.out]; go_num, HN.out rfl⟩
              case measure => simp [intOf]; omega
            · have f3 : (z == 0) = false := beq_eq_false_iff_ne.2 z3
              have hR := HB.out (by unfold small1; rw [f1, f2, f3]; rfl)
              clear z1 z2 z3
              go_wp2_with fail
              go_ret
              exact ⟨ret_bool (by rw [hR.out]), hbW⟩
      · obtain rfl : k = l.length := by omega
        have htk : Hid (weight (l.take l.length) = weight l) := by show _ = _; rw [List.take_length]
        rw [htk.out]
        by_cases hn : (l.length : Int) = x.n
        case neg =>
          have e1 : ((l.length : Int) == x.n) = false := beq_eq_false_iff_ne.2 hn
          have hR : Hid (secB x l = false) := secB_no (.inr (.inl (by simpa using hn)))
          clear hn
          go_wp2_with fail
          go_ret
          exact ⟨ret_bool (by rw [hR.out]), ((Below.refl _ _).alloc (Nat.le_refl _) _).alloc (by simp) _⟩
        have e1 : ((l.length : Int) == x.n) = true := beq_iff_eq.2 hn
        by_cases hw : (weight l : Int) = x.wt
        case neg =>
          have e2 : ((weight l : Int) == x.wt) = false := beq_eq_false_iff_ne.2 hw
          have hR : Hid (secB x l = false) := secB_no (.inr (.inr (by simpa using hw)))
          clear hw hn
          go_wp2_with fail
          go_ret
          exact ⟨ret_bool (by rw [hR.out]), ((Below.refl _ _).alloc (Nat.le_refl _) _).alloc (by simp) _⟩
        have e2 : ((weight l : Int) == x.wt) = true := beq_iff_eq.2 hw
        have hR : Hid (secB x l = true) := secB_yes (fun z hz => by
            obtain ⟨j, hj, rfl⟩ := List.mem_iff_getElem.1 hz
            exact hall.out j (by omega) hj) hn hw
        clear hw hn hall
        go_wp2_with fail
        go_ret
        exact ⟨ret_bool (by rw [hR.out]), ((Below.refl _ _).alloc (Nat.le_refl _) _).alloc (by simp) _⟩
end Go.Proofs.YtjpcljnojipdnaaGreat

/-! Walks of the layer of keys: CheckSecret, the reference's CheckSecret and Automorphism. -/
namespace Go.Proofs.YtjpcljnojipdnaaGreat
open Go.RowKit

theorem csec_no {pr : Nat → Bool} {x : Par} {l : List Int} (h : okB pr x = false ∨ secB x l = false) : csec pr x l = 2 := by
  unfold csec; rcases h with h | h <;> rw [h] <;> simp
theorem csec_yes {pr : Nat → Bool} {x : Par} {l : List Int} (h : okB pr x = true) (h2 : secB x l = true) : csec pr x l = 0 := by
  unfold csec; rw [h, h2]; rfl

set_option maxHeartbeats 1000000 in
theorem csecret_any (x : Par) (cv sv : Value) (l : List Int) (w : World) (hx : ParOk x) (hcv : SliceAt w cv x.ch) (hs : SliceZ .i8 w sv l) (hlen : l.length ≤ 140737488351232) :
    Calls Tryz.prog 36 #[x.val cv, .agg #[sv]] w fun r w' => r = .returned (.int .i64 (csec mPrime x l)) ∧ Below w.heap.size w w' := by
  have hbW : Below w.heap.size w ((w.alloc (.cells #[.int .i64 x.n, .int .u32 x.p, .int .i64 x.r, cv, .int .u32 x.sp, .int .i64 x.wt, .int .u32 x.er] 25)).alloc (.cells #[sv] 28)) := ((Below.refl _ _).alloc (Nat.le_refl _) _).alloc (by simp) _
  have hcv1 := Lib.hid (hcv.below hbW)
  have hs1 := Lib.hid (hs.below hbW)
  have hB : BoxP ((w.alloc (.cells #[.int .i64 x.n, .int .u32 x.p, .int .i64 x.r, cv, .int .u32 x.sp, .int .i64 x.wt, .int .u32 x.er] 25)).alloc (.cells #[sv] 28)) w.heap.size x cv := by constructor <;> simp [go_sem]
  have hS : ((w.alloc (.cells #[.int .i64 x.n, .int .u32 x.p, .int .i64 x.r, cv, .int .u32 x.sp, .int .i64 x.wt, .int .u32 x.er] 25)).alloc (.cells #[sv] 28)).cell? ⟨w.heap.size + 1, 0, none⟩ = some sv := by simp [go_sem]
  have hsz : w.heap.size + 1 + 1 ≤ ((w.alloc (.cells #[.int .i64 x.n, .int .u32 x.p, .int .i64 x.r, cv, .int .u32 x.sp, .int .i64 x.wt, .int .u32 x.er] 25)).alloc (.cells #[sv] 28)).heap.size := by simp
  have HB := Lib.hid hB; have HS := Lib.hid hS
  clear hB hS
  unfold Par.val
  cases hok : okB mPrime x with
  | false =>
    have hR : Hid (csec mPrime x l = 2) := csec_no (.inl hok)
    have hC : Hid (chk mPrime x = 2) := chk_two hok
    clear hok
    go_enter Tryz.func36, Tryz.ntmps36
    go_wp2_with fail
    refine (pcheck_any x cv _ hx hcv1.out).mono ?_
    rintro e w1 ⟨rfl, hb1⟩
    rw [hC.out]
    go_wp2_with fail
    go_ret
    exact ⟨ret_int (by rw [hR.out]), hbW.trans (hb1.mono (by omega))⟩
  | true =>
    have hC : Hid (chk mPrime x = 0) := chk_ok hok
    go_enter Tryz.func36, Tryz.ntmps36
    go_wp2_with fail
    refine (pcheck_any x cv _ hx hcv1.out).mono ?_
    rintro e w1 ⟨rfl, hb1⟩
    rw [hC.out]
    have hB1 := HB.out.below hb1 (by omega)
    have k0 := hB1.n; have k1 := hB1.p; have k2 := hB1.r; have k3 := hB1.ch; have k4 := hB1.sp; have k5 := hB1.wt; have k6 := hB1.er
    have ks : w1.cell? ⟨w.heap.size + 1, 0, none⟩ = some sv := by rw [hb1.cell (p := ⟨_, _, none⟩) (by show w.heap.size + 1 < _; omega)]; exact HS.out
    clear hB1
    have hs2 := Lib.hid (hs1.out.below hb1)
    go_wp2_with fail
    refine (secret_any x cv sv l _ hs2.out hlen).mono ?_
    rintro e w2 ⟨rfl, hb2⟩
    cases hsec : secB x l with
    | false =>
      have hR : Hid (csec mPrime x l = 2) := csec_no (.inr hsec)
      go_wp2_with fail
      go_ret
      exact ⟨ret_int (by rw [hR.out]), (hbW.trans (hb1.mono (by omega))).trans (hb2.mono (by have := hb1.size; omega))⟩
    | true =>
      have hR : Hid (csec mPrime x l = 0) := csec_yes hok hsec
      go_wp2_with fail
      go_ret
      exact ⟨ret_int (by rw [hR.out]), (hbW.trans (hb1.mono (by omega))).trans (hb2.mono (by have := hb1.size; omega))⟩

set_option maxHeartbeats 1000000 in
theorem rcsecret_any (x : Par) (cv sv : Value) (l : List Int) (w : World) (hx : ParOk x) (hcv : SliceAt w cv x.ch) (hs : SliceZ .i8 w sv l) (hlen : l.length ≤ 140737488351232) :
    Calls Tryz.prog 59 #[x.val cv, .agg #[sv]] w fun r w' => r = .returned (.int .i64 (csec rPrime x l)) ∧ Below w.heap.size w w' := by
  obtain ⟨p, cap, rfl, hc, hc2, hrow⟩ := hs
  have hl0 : l.length ≤ 9223372036854775807 := by omega
  have hbW : Below w.heap.size w ((w.alloc (.cells #[.int .i64 x.n, .int .u32 x.p, .int .i64 x.r, cv, .int .u32 x.sp, .int .i64 x.wt, .int .u32 x.er] 25)).alloc (.cells #[.slice p l.length cap] 28)) := ((Below.refl _ _).alloc (Nat.le_refl _) _).alloc (by simp) _
  have hcv1 := Lib.hid (hcv.below hbW)
  have hB : BoxP ((w.alloc (.cells #[.int .i64 x.n, .int .u32 x.p, .int .i64 x.r, cv, .int .u32 x.sp, .int .i64 x.wt, .int .u32 x.er] 25)).alloc (.cells #[.slice p l.length cap] 28)) w.heap.size x cv := by constructor <;> simp [go_sem]
  have hS : ((w.alloc (.cells #[.int .i64 x.n, .int .u32 x.p, .int .i64 x.r, cv, .int .u32 x.sp, .int .i64 x.wt, .int .u32 x.er] 25)).alloc (.cells #[.slice p l.length cap] 28)).cell? ⟨w.heap.size + 1, 0, none⟩ = some (.slice p l.length cap) := by simp [go_sem]
  have hsz : w.heap.size + 1 + 1 ≤ ((w.alloc (.cells #[.int .i64 x.n, .int .u32 x.p, .int .i64 x.r, cv, .int .u32 x.sp, .int .i64 x.wt, .int .u32 x.er] 25)).alloc (.cells #[.slice p l.length cap] 28)).heap.size := by simp
  have HB := Lib.hid hB; have HS := Lib.hid hS
  clear hB hS
  unfold Par.val
  cases hok : okB rPrime x with
  | false =>
    have hR : Hid (csec rPrime x l = 2) := csec_no (.inl hok)
    have hC : Hid (chk rPrime x = 2) := chk_two hok
    clear hok
    go_enter Tryz.func59, Tryz.ntmps59
    go_wp2_with fail
    refine (rcheck_any x cv _ hx hcv1.out).mono ?_
    rintro e w1 ⟨rfl, hb1⟩
    rw [hC.out]
    go_wp2_with fail
    go_ret
    exact ⟨ret_int (by rw [hR.out]), hbW.trans (hb1.mono (by omega))⟩
  | true =>
    have hC : Hid (chk rPrime x = 0) := chk_ok hok
    by_cases hn : (l.length : Int) = x.n
    case neg =>
      have hR : Hid (csec rPrime x l = 2) := csec_no (.inr (secB_no (.inr (.inl hn))))
      have e1 : ((l.length : Int) != x.n) = true := bne_iff_ne.2 hn
      clear hn
      go_enter Tryz.func59, Tryz.ntmps59
      go_wp2_with fail
      refine (rcheck_any x cv _ hx hcv1.out).mono ?_
      rintro e w1 ⟨rfl, hb1⟩
      rw [hC.out]
      have hB1 := HB.out.below hb1 (by omega)
      have k0 := hB1.n
      have ks : w1.cell? ⟨w.heap.size + 1, 0, none⟩ = some (.slice p l.length cap) := by rw [hb1.cell (p := ⟨_, _, none⟩) (by show w.heap.size + 1 < _; omega)]; exact HS.out
      clear hB1
      go_wp2_with fail
      go_ret
      exact ⟨ret_int (by rw [hR.out]), hbW.trans (hb1.mono (by omega))⟩
    have e1 : ((l.length : Int) != x.n) = false := by rw [hn]; simp
    have HN := Lib.hid hn
    have hne : l ≠ [] := by
      intro e
      have hd : isDim x.n = true := by
        rw [okB_conds] at hok; simp only [Bool.and_eq_true] at hok; exact hok.1
      have := isDim_cases hd
      rw [e] at hn; simp at hn; omega
    obtain ⟨b, off, rfl, hr⟩ := hrow hne
    clear hn hne
    go_enter Tryz.func59, Tryz.ntmps59
    go_wp2_with fail
    refine (rcheck_any x cv _ hx hcv1.out).mono ?_
    rintro e w1 ⟨rfl, hb1⟩
    rw [hC.out]
    have hB1 := HB.out.below hb1 (by omega)
    have k0 := hB1.n; have k5 := hB1.wt
    have ks : w1.cell? ⟨w.heap.size + 1, 0, none⟩ = some (.slice (some ⟨b, off, none⟩) l.length cap) := by rw [hb1.cell (p := ⟨_, _, none⟩) (by show w.heap.size + 1 < _; omega)]; exact HS.out
    clear hB1
    have hbT : Below w.heap.size w w1 := hbW.trans (hb1.mono (by omega))
    have hrT := hr.below hbT hr.blk
    clear hb1
    go_wp2_with fail
    go_loop [5, 6] (fun vw vk => ∃ k : Nat, vk = .int .i64 k ∧ k ≤ l.length ∧ vw = .int .i64 (weight (l.take k)) ∧ Hid (∀ j (hj : j < k) (h1 : j < l.length), small1 l[j] = true)) (fun _ vk => l.length - (intOf vk).toNat)
    case atStart => exact ⟨0, rfl, by omega, rfl, by intro j hj; omega⟩
    case round =>
      obtain ⟨k, rfl, hk, rfl, hall⟩ := hrel
      by_cases hlt : k < l.length
      · have hxk := hrT.cell k hlt
        have hwk := weight_snoc (l.take k) l[k]
        rw [← take_snoc l k hlt] at hwk
        have hwl := weight_le (l.take k)
        have htl : (l.take k).length ≤ k := List.length_take_le _ _
        have hnew := fun (hs : small1 l[k] = true) => (show Hid (∀ j (hj : j < k + 1) (h1 : j < l.length), small1 l[j] = true) from by
          intro j hj h1
          by_cases e : j = k
          · subst e; exact hs
          · exact hall.out j (by omega) h1)
        have hbadk := fun (hs : small1 l[k] = false) => (show Hid (csec rPrime x l = 2) from csec_no (.inr (secB_no (.inl ⟨l[k], List.getElem_mem hlt, hs⟩))))
        have i0 : (0 : Int) ≤ k := by omega
        have i1 : (k : Int) < l.length := by omega
        have HNW := Lib.hid hnew; have HBD := Lib.hid hbadk; have HWK := Lib.hid hwk
        clear hnew hbadk hwk
        generalize l[k] = z at *
        by_cases z1 : z < -1
        · have f1 : decide (z < -1) = true := decide_eq_true z1
          have hR := HBD.out (by rw [← Bool.not_eq_true, small1_iff]; omega)
          go_wp2_with fail
          go_ret
          exact ⟨ret_int (by rw [hR.out]), hbT⟩
        have f1 : decide (z < -1) = false := decide_eq_false z1
        by_cases z2 : 1 < z
        · have f2 : decide (1 < z) = true := decide_eq_true z2
          have hR := HBD.out (by rw [← Bool.not_eq_true, small1_iff]; omega)
          go_wp2_with fail
          go_ret
          exact ⟨ret_int (by rw [hR.out]), hbT⟩
        have f2 : decide (1 < z) = false := decide_eq_false z2
        have hnew := HNW.out (by rw [small1_iff]; omega)
        by_cases z3 : z = 0
        · have f3 : (z != 0) = false := by rw [z3]; rfl
          have hw2 : Hid (weight (l.take (k + 1)) = weight (l.take k)) := by show _ = _; rw [HWK.out, if_pos z3]; rfl
          clear z3 z1 z2
          go_wp2_with fail
          go_round
          case rel => exact ⟨k + 1, by go_num, by omega, by rw [hw2.out], hnew⟩
          case measure => simp [intOf]; omega
        · have f3 : (z != 0) = true := bne_iff_ne.2 z3
          have hw2 : Hid (weight (l.take (k + 1)) = weight (l.take k) + 1) := by show _ = _; rw [HWK.out, if_neg z3]
          clear z3 z1 z2
          go_wp2_with fail
          go_round
          case rel => exact ⟨k + 1, by go_num, by omega, by rw [hw2.out]; go_num, hnew⟩
          case measure => simp [intOf]; omega
      · obtain rfl : k = l.length := by omega
        have htk : Hid (weight (l.take l.length) = weight l) := by show _ = _; rw [List.take_length]
        rw [htk.out]
        by_cases hw : (weight l : Int) = x.wt
        · have e2 : ((weight l : Int) != x.wt) = false := by rw [hw]; simp
          have hR : Hid (csec rPrime x l = 0) := csec_yes hok (secB_yes (fun z hz => by
            obtain ⟨j, hj, rfl⟩ := List.mem_iff_getElem.1 hz
            exact hall.out j (by omega) hj) HN.out hw)
          clear hw hall
          go_wp2_with fail
          go_ret
          exact ⟨ret_int (by rw [hR.out]), hbT⟩
        · have e2 : ((weight l : Int) != x.wt) = true := bne_iff_ne.2 hw
          have hR : Hid (csec rPrime x l = 2) := csec_no (.inr (secB_no (.inr (.inr hw))))
          clear hw hall
          go_wp2_with fail
          go_ret
          exact ⟨ret_int (by rw [hR.out]), hbT⟩

end Go.Proofs.YtjpcljnojipdnaaGreat
