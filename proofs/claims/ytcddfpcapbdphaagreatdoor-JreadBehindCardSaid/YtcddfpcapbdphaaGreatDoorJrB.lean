/- The reader of a text: what a value's beginning hands back. -/
import Derived.Test.YtcddfpcapbdphaaGreatDoorJr10
namespace Go.Proofs.YtcddfpcapbdphaaGreatDoor
open Go.RowKit

/-- the kind of what begins with a byte -/
def kindV (c : UInt8) : Int := if c.toNat = 45 ∨ (48 ≤ c.toNat ∧ c.toNat ≤ 57) then 4 else kindB c
def beg_chk (c : UInt8) : Bool := (begB c == !(kindV c == 0)) && decide (0 ≤ kindV c ∧ kindV c ≤ 7) && ((kindV c == 6) == (c == 91)) && ((kindV c == 7) == (c == 123)) && ((kindV c == 1) == (c == 110)) && ((kindV c == 2) == (c == 102)) && ((kindV c == 3) == (c == 116)) && ((kindV c == 5) == (c == 34))
theorem beg_all (c : UInt8) : beg_chk c = true := by
  have key : ∀ n : _root_.Fin 256, beg_chk (UInt8.ofNat n.val) = true := by decide +kernel
  have h := key ⟨c.toNat, c.toNat_lt⟩
  simpa using h
theorem beg_is (c : UInt8) : (begB c = false ↔ kindV c = 0) ∧ 0 ≤ kindV c ∧ kindV c ≤ 7 ∧ (kindV c = 6 ↔ c = 91) ∧ (kindV c = 7 ↔ c = 123) ∧ (kindV c = 1 ↔ c = 110) ∧ (kindV c = 2 ↔ c = 102) ∧ (kindV c = 3 ↔ c = 116) ∧ (kindV c = 5 ↔ c = 34) := by
  have h := beg_all c
  unfold beg_chk at h
  simp only [Bool.and_eq_true, decide_eq_true_eq, beq_iff_eq] at h
  obtain ⟨⟨⟨⟨⟨⟨⟨h1, h2, h3⟩, h4⟩, h5⟩, h6⟩, h7⟩, h8⟩, h9⟩ := h
  have e : ∀ {a : Int} {k : Int} {x y : UInt8}, (a == k) = (x == y) → (a = k ↔ x = y) := fun {a k x y} h => by
    constructor
    · intro e; rw [e] at h; simpa using h.symm
    · intro e; rw [e] at h; simpa using h
  refine ⟨?_, h2, h3, e h4, e h5, e h6, e h7, e h8, e h9⟩
  rw [h1]
  simp
/-- the reader has failed; no more is said of its rows -/
def JNoW (rb : Nat) (s : ByteArray) (b : Bad) (w : World) : Prop := ∃ (m : Nat) (cs : Array Value), JAt s m b.1 ∧ w.heap[rb]? = some (.cells cs 48 (0, 0)) ∧ cs[5]? = some (.int .i64 b.2) ∧ cs[6]? = some (.int .i64 (m : Int))
theorem JNo.weak {base rb : Nat} {s : ByteArray} {b : Bad} {w : World} (h : JNo base rb s b w) : JNoW rb s b w := by
  obtain ⟨m, k, out, H, key, h1, _, ov, hv, h2, _⟩ := h
  exact ⟨m, _, h1, h2, rfl, rfl⟩
theorem JNoW.set {rb g i : Nat} {s : ByteArray} {b : Bad} {w : World} (h : JNoW rb s b w) (hne : rb ≠ g) (v : Value) : JNoW rb s b (w.setCell ⟨g, i, none⟩ v) := by
  obtain ⟨m, cs, h1, h2, h3, h4⟩ := h
  exact ⟨m, cs, h1, ((One.refl g w).set i v).heap h2 hne, h3, h4⟩
/-- what a value's beginning hands back -/
def JBeg (base rb : Nat) (s : ByteArray) (out : List Nd) (H : List Jh) (key : ByteArray) (e bad : Int) (l : List UInt8) (y : Ending) (w' : World) : Prop :=
  match l with
  | [] => (∃ z : Int, y = .returned (.tuple #[.int .i64 z, .bool false])) ∧ JNoW rb s ([], 70) w'
  | c :: r =>
    if begB c = false then (∃ z : Int, y = .returned (.tuple #[.int .i64 z, .bool false])) ∧ JNoW rb s (c :: r, 70) w'
    else if 4000 ≤ out.length then (∃ z : Int, y = .returned (.tuple #[.int .i64 z, .bool false])) ∧ JNoW rb s (c :: r, 5) w'
    else if 64 ≤ H.length then (∃ z : Int, y = .returned (.tuple #[.int .i64 z, .bool false])) ∧ JNoW rb s (c :: r, 72) w'
    else if c = 91 ∨ c = 123 then y = .returned (.tuple #[.int .i64 (if c = 123 then 3 else 1), .bool true]) ∧ JOk base rb s (out ++ [⟨kindOf (c == 123), key, 0, none_, 1⟩]) (⟨out.length, []⟩ :: H) none_ e bad r w'
    else match leafV c (c :: r) with
      | .error b => (∃ z : Int, y = .returned (.tuple #[.int .i64 z, .bool false])) ∧ JNoW rb s b w'
      | .ok (j, r2) => y = .returned (.tuple #[.int .i64 4, .bool true]) ∧ JOk base rb s (out ++ (j.rekey key).flat) H none_ e bad r2 w'
/-- the nodes' block, as the heap has it -/
theorem JR.nodeHeap {base rb n : Nat} {s key : ByteArray} {out : List Nd} {H : List Jh} {e bad : Int} {w : World} {g cap : Nat} (h : JR base rb s n out H key e bad w) (hc : w.cell? ⟨rb, 2, none⟩ = some (.slice (some ⟨g, 0, none⟩) out.length cap)) (hl : 0 < out.length) :
    ∃ cur : Array Value, w.heap[g]? = some (.cells cur 41 (0, 0)) ∧ rb ≠ g ∧ base ≤ g ∧ ∀ (j : Nat) (u : Value), (ndVals out)[j]? = some u → cur[j]? = some u := by
  obtain ⟨k1, k2, _, _⟩ := h.nodeAt hc hl
  obtain ⟨h1, ov, hv, h2, h3, h4⟩ := h
  have hov : ov = .slice (some ⟨g, 0, none⟩) out.length cap := by
    have e2 : some ov = some (.slice (some ⟨g, 0, none⟩) out.length cap) := (cell_of_heap (i := 2) h2).symm.trans hc
    injection e2
  subst hov
  obtain ⟨hl2, h5⟩ := id h3
  rcases h5 with ⟨h6, _⟩ | ⟨g', cap', cur, e3, _, hh, _⟩
  · cases h6
  · injection e3 with e3 _ _
    injection e3 with e3
    injection e3 with e3
    subst e3
    refine ⟨cur, hh, ?_, k1, fun j u hu => ?_⟩
    · rintro rfl
      rw [h2] at hh
      injection hh with hh
      injection hh with _ hT _
      exact absurd hT (by decide)
    · have := k2 j u hu
      rw [cell_of_heap hh] at this
      exact this
theorem nd_setk (pre : List Nd) (a b : Nd) (k : Nat) (u : Value) (hk : k < 5) (h : b.vals = a.vals.set k u) : ndVals (pre ++ [b]) = (ndVals (pre ++ [a])).set (pre.length * 5 + k) u := by
  rw [ndVals_append, ndVals_append, ndVals_one, ndVals_one, h, List.set_append_right _ _ (by rw [ndVals_length]; omega), ndVals_length, Nat.add_sub_cancel_left]
theorem nd_lastk (pre : List Nd) (a : Nd) (k : Nat) (hk : k < 5) : (ndVals (pre ++ [a]))[pre.length * 5 + k]? = a.vals[k]? := by
  rw [ndVals_get _ _ _ hk (by simp)]
  simp
theorem nodes_keptJ {T base base' : Nat} {w w' : World} {v : Value} {l : List Nd} (h : NodesOwn base w v l) (k : KeptJ T base' w w') (hne : 41 ≠ T) : NodesOwn base w' v l := by
  obtain ⟨hl, h2⟩ := h
  refine ⟨hl, ?_⟩
  rcases h2 with h2 | ⟨g, cap, cur, rfl, hb, hh, r⟩
  · exact .inl h2
  · exact .inr ⟨g, cap, cur, rfl, hb, k.kept.other _ _ _ _ hh hne, r⟩
theorem JR.pushOpen {base rb n : Nat} {s key : ByteArray} {out : List Nd} {H H' : List Jh} {e bad : Int} {w w' : World} {v : Value} (h : JR base rb s n out H key e bad w) (k : KeptJ 84 base w w') (hv : JOpen base w' v H') :
    JR base rb s n out H' key e bad (w'.setCell ⟨rb, 3, none⟩ v) := by
  obtain ⟨h1, ov, hh, h2, h3, h4⟩ := h
  have e2 := k.kept.other _ _ _ _ h2 (by decide)
  exact ⟨h1, ov, v, set_heap e2 _, own_set_else (nodes_keptJ h3 k (by decide)) e2 (by decide), hv.set_else e2 (by decide)⟩
theorem JR.kept3 {base rb n : Nat} {s key : ByteArray} {out : List Nd} {H : List Jh} {e bad : Int} {w w' : World} (h : JR base rb s n out H key e bad w) (k : KeptJ 84 base w w') : ∃ v, w'.cell? ⟨rb, 3, none⟩ = some v ∧ w'.frozen? ⟨rb, 3, none⟩ = false := by
  obtain ⟨h1, ov, hh, h2, h3, h4⟩ := h
  have e2 := k.kept.other _ _ _ _ h2 (by decide)
  exact ⟨hh, (cell_of_heap (i := 3) e2).trans rfl, free_of_heap e2⟩
section
variable {base rb : Nat} {s key : ByteArray} {out : List Nd} {H : List Jh} {e bad : Int} {c : UInt8} {r : List UInt8} {y : Ending} {w' : World}
theorem JBeg.no70 (hb : begB c = false) (h1 : ∃ z : Int, y = .returned (.tuple #[.int .i64 z, .bool false])) (h2 : JNoW rb s (c :: r, 70) w') : JBeg base rb s out H key e bad (c :: r) y w' := by
  simp only [JBeg]
  rw [if_pos hb]
  exact ⟨h1, h2⟩
theorem JBeg.no5 (hb : ¬ begB c = false) (ho : 4000 ≤ out.length) (h1 : ∃ z : Int, y = .returned (.tuple #[.int .i64 z, .bool false])) (h2 : JNoW rb s (c :: r, 5) w') : JBeg base rb s out H key e bad (c :: r) y w' := by
  simp only [JBeg]
  rw [if_neg hb, if_pos ho]
  exact ⟨h1, h2⟩
theorem JBeg.no72 (hb : ¬ begB c = false) (ho : ¬ 4000 ≤ out.length) (hH : 64 ≤ H.length) (h1 : ∃ z : Int, y = .returned (.tuple #[.int .i64 z, .bool false])) (h2 : JNoW rb s (c :: r, 72) w') : JBeg base rb s out H key e bad (c :: r) y w' := by
  simp only [JBeg]
  rw [if_neg hb, if_neg ho, if_pos hH]
  exact ⟨h1, h2⟩
theorem JBeg.open_ (hb : ¬ begB c = false) (ho : ¬ 4000 ≤ out.length) (hH : ¬ 64 ≤ H.length) (hc : c = 91 ∨ c = 123) (h1 : y = .returned (.tuple #[.int .i64 (if c = 123 then 3 else 1), .bool true])) (h2 : JOk base rb s (out ++ [⟨kindOf (c == 123), key, 0, none_, 1⟩]) (⟨out.length, []⟩ :: H) none_ e bad r w') : JBeg base rb s out H key e bad (c :: r) y w' := by
  simp only [JBeg]
  rw [if_neg hb, if_neg ho, if_neg hH, if_pos hc]
  exact ⟨h1, h2⟩
theorem JBeg.no_leaf (hb : ¬ begB c = false) (ho : ¬ 4000 ≤ out.length) (hH : ¬ 64 ≤ H.length) (hc : ¬ (c = 91 ∨ c = 123)) {b : Bad} (hl : leafV c (c :: r) = .error b) (h1 : ∃ z : Int, y = .returned (.tuple #[.int .i64 z, .bool false])) (h2 : JNoW rb s b w') : JBeg base rb s out H key e bad (c :: r) y w' := by
  simp only [JBeg]
  rw [if_neg hb, if_neg ho, if_neg hH, if_neg hc, hl]
  exact ⟨h1, h2⟩
theorem JBeg.leaf (hb : ¬ begB c = false) (ho : ¬ 4000 ≤ out.length) (hH : ¬ 64 ≤ H.length) (hc : ¬ (c = 91 ∨ c = 123)) {j : J} {r2 : List UInt8} (hl : leafV c (c :: r) = .ok (j, r2)) (h1 : y = .returned (.tuple #[.int .i64 4, .bool true])) (h2 : JOk base rb s (out ++ (j.rekey key).flat) H none_ e bad r2 w') : JBeg base rb s out H key e bad (c :: r) y w' := by
  simp only [JBeg]
  rw [if_neg hb, if_neg ho, if_neg hH, if_neg hc, hl]
  exact ⟨h1, h2⟩
end
end Go.Proofs.YtcddfpcapbdphaaGreatDoor

