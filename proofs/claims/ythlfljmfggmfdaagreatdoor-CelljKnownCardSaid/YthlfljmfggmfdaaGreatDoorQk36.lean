/-  -/
import Derived.Test.YthlfljmfggmfdaaGreatDoorQk35
/-! ###  -/
namespace Go.Proofs.YthlfljmfggmfdaaGreatDoor
open Go.RowKit
def kindV (c : UInt8) : Int := if c.toNat = 45 ∨ (48 ≤ c.toNat ∧ c.toNat ≤ 57) then 4 else kindB c
def beg_chk (c : UInt8) : Bool := (begB c == !(kindV c == 0)) && decide (0 ≤ kindV c ∧ kindV c ≤ 7) && ((kindV c == 6) == (c == 91)) && ((kindV c == 7) == (c == 123)) && ((kindV c == 1) == (c == 110)) && ((kindV c == 2) == (c == 102)) && ((kindV c == 3) == (c == 116)) && ((kindV c == 5) == (c == 34))
theorem beg_all (c : UInt8) : beg_chk c = true := by
 have key : ∀ n : _root_.Fin 256, beg_chk (UInt8.ofNat n.val) = true := by decide +kernel
 have h := key ⟨c.toNat, c.toNat_lt⟩
 simpa using h
theorem beg_is (c : UInt8) : (begB c = false ↔ kindV c = 0) ∧ 0 ≤ kindV c ∧ kindV c ≤ 7 ∧ (kindV c = 6 ↔ c = 91) ∧ (kindV c = 7 ↔ c = 123) ∧ (kindV c = 1 ↔ c = 110) ∧ (kindV c = 2 ↔ c = 102) ∧ (kindV c = 3 ↔ c = 116) ∧ (kindV c = 5 ↔ c = 34) := by
 have h := beg_all c
 unfold beg_chk at h
 simp only [Bool.and_eq_true, decide_eq_true_eq, beq_iff_eq] at h
 obtain ⟨⟨⟨⟨⟨⟨⟨h1, h2, h3⟩, h4⟩, h5⟩, h6⟩, h7⟩, h8⟩, h9⟩ := h
 have e : ∀ {a : Int} {k : Int} {x y : UInt8}, (a == k) = (x == y) → (a = k ↔ x = y) := fun {a k x y} h => by
  constructor
  · intro e; rw [e] at h; simpa using h.symm
  · intro e; rw [e] at h; simpa using h
 refine ⟨?_, h2, h3, e h4, e h5, e h6, e h7, e h8, e h9⟩
 rw [h1]
 simp
def JNoW (rb : Nat) (s : ByteArray) (b : Bad) (w : World) : Prop := ∃ (m : Nat) (cs : Array Value), JAt s m b.1 ∧ w.heap[rb]? = some (.cells cs 100 (0, 0)) ∧ cs[5]? = some (.int .i64 b.2) ∧ cs[6]? = some (.int .i64 (m : Int))
theorem JNo.weak {base rb : Nat} {s : ByteArray} {b : Bad} {w : World} (h : JNo base rb s b w) : JNoW rb s b w := by
 obtain ⟨m, k, out, H, key, h1, _, ov, hv, h2, _⟩ := h
 exact ⟨m, _, h1, h2, rfl, rfl⟩
theorem JNoW.set {rb g i : Nat} {s : ByteArray} {b : Bad} {w : World} (h : JNoW rb s b w) (hne : rb ≠ g) (v : Value) : JNoW rb s b (w.setCell ⟨g, i, none⟩ v) := by
 obtain ⟨m, cs, h1, h2, h3, h4⟩ := h
 exact ⟨m, cs, h1, ((One.refl g w).set i v).heap h2 hne, h3, h4⟩
def JBeg (base rb : Nat) (s : ByteArray) (out : List Nd) (H : List Jh) (key : ByteArray) (e bad : Int) (l : List UInt8) (y : Ending) (w' : World) : Prop :=
 match l with
 | [] => (∃ z : Int, y = .returned (.tuple #[.int .i64 z, .bool false])) ∧ JNoW rb s ([], 70) w'
 | c :: r =>
   if begB c = false then (∃ z : Int, y = .returned (.tuple #[.int .i64 z, .bool false])) ∧ JNoW rb s (c :: r, 70) w'
   else if 4000 ≤ out.length then (∃ z : Int, y = .returned (.tuple #[.int .i64 z, .bool false])) ∧ JNoW rb s (c :: r, 5) w'
   else if 64 ≤ H.length then (∃ z : Int, y = .returned (.tuple #[.int .i64 z, .bool false])) ∧ JNoW rb s (c :: r, 72) w'
   else if c = 91 ∨ c = 123 then y = .returned (.tuple #[.int .i64 (if c = 123 then 3 else 1), .bool true]) ∧ JOk base rb s (out ++ [⟨kindOf (c == 123), key, 0, none_, 1⟩]) (⟨out.length, []⟩ :: H) none_ e bad r w'
   else match leafV c (c :: r) with
    | .error b => (∃ z : Int, y = .returned (.tuple #[.int .i64 z, .bool false])) ∧ JNoW rb s b w'
    | .ok (j, r2) => y = .returned (.tuple #[.int .i64 4, .bool true]) ∧ JOk base rb s (out ++ (j.rekey key).flat) H none_ e bad r2 w'
theorem JR.nodeHeap {base rb n : Nat} {s key : ByteArray} {out : List Nd} {H : List Jh} {e bad : Int} {w : World} {g cap : Nat} (h : JR base rb s n out H key e bad w) (hc : w.cell? ⟨rb, 2, none⟩ = some (.slice (some ⟨g, 0, none⟩) out.length cap)) (hl : 0 < out.length) :
 ∃ cur : Array Value, w.heap[g]? = some (.cells cur 36 (0, 0)) ∧ rb ≠ g ∧ base ≤ g ∧ ∀ (j : Nat) (u : Value), (ndVals out)[j]? = some u → cur[j]? = some u := by
 obtain ⟨k1, k2, _, _⟩ := h.nodeAt hc hl
 obtain ⟨h1, ov, hv, h2, h3, h4⟩ := h
 have hov : ov = .slice (some ⟨g, 0, none⟩) out.length cap := by
  have e2 : some ov = some (.slice (some ⟨g, 0, none⟩) out.length cap) := (cell_of_heap (i := 2) h2).symm.trans hc
  injection e2
 subst hov
 obtain ⟨hl2, h5⟩ := id h3
 rcases h5 with ⟨h6, _⟩ | ⟨g', cap', cur, e3, _, hh, _⟩
 · cases h6
 · injection e3 with e3 _ _
   injection e3 with e3
   injection e3 with e3
   subst e3
   refine ⟨cur, hh, ?_, k1, fun j u hu => ?_⟩
   · rintro rfl
     rw [h2] at hh
     injection hh with hh
     injection hh with _ hT _
     exact absurd hT (by decide)
   · have := k2 j u hu
     rw [cell_of_heap hh] at this
     exact this
theorem nd_setk (pre : List Nd) (a b : Nd) (k : Nat) (u : Value) (hk : k < 5) (h : b.vals = a.vals.set k u) : ndVals (pre ++ [b]) = (ndVals (pre ++ [a])).set (pre.length * 5 + k) u := by
 rw [ndVals_append, ndVals_append, ndVals_one, ndVals_one, h, List.set_append_right _ _ (by rw [ndVals_length]; omega), ndVals_length, Nat.add_sub_cancel_left]
theorem nd_lastk (pre : List Nd) (a : Nd) (k : Nat) (hk : k < 5) : (ndVals (pre ++ [a]))[pre.length * 5 + k]? = a.vals[k]? := by
 rw [ndVals_get _ _ _ hk (by simp)]
 simp
theorem nodes_keptJ {T base base' : Nat} {w w' : World} {v : Value} {l : List Nd} (h : NodesOwn base w v l) (k : KeptJ T base' w w') (hne : 36 ≠ T) : NodesOwn base w' v l := by
 obtain ⟨hl, h2⟩ := h
 refine ⟨hl, ?_⟩
 rcases h2 with h2 | ⟨g, cap, cur, rfl, hb, hh, r⟩
 · exact .inl h2
 · exact .inr ⟨g, cap, cur, rfl, hb, k.kept.other _ _ _ _ hh hne, r⟩
theorem JR.pushOpen {base rb n : Nat} {s key : ByteArray} {out : List Nd} {H H' : List Jh} {e bad : Int} {w w' : World} {v : Value} (h : JR base rb s n out H key e bad w) (k : KeptJ 139 base w w') (hv : JOpen base w' v H') :
 JR base rb s n out H' key e bad (w'.setCell ⟨rb, 3, none⟩ v) := by
 obtain ⟨h1, ov, hh, h2, h3, h4⟩ := h
 have e2 := k.kept.other _ _ _ _ h2 (by decide)
 exact ⟨h1, ov, v, set_heap e2 _, own_set_else (nodes_keptJ h3 k (by decide)) e2 (by decide), hv.set_else e2 (by decide)⟩
theorem JR.kept3 {base rb n : Nat} {s key : ByteArray} {out : List Nd} {H : List Jh} {e bad : Int} {w w' : World} (h : JR base rb s n out H key e bad w) (k : KeptJ 139 base w w') : ∃ v, w'.cell? ⟨rb, 3, none⟩ = some v ∧ w'.frozen? ⟨rb, 3, none⟩ = false := by
 obtain ⟨h1, ov, hh, h2, h3, h4⟩ := h
 have e2 := k.kept.other _ _ _ _ h2 (by decide)
 exact ⟨hh, (cell_of_heap (i := 3) e2).trans rfl, free_of_heap e2⟩
section
variable {base rb : Nat} {s key : ByteArray} {out : List Nd} {H : List Jh} {e bad : Int} {c : UInt8} {r : List UInt8} {y : Ending} {w' : World}
theorem JBeg.no70 (hb : begB c = false) (h1 : ∃ z : Int, y = .returned (.tuple #[.int .i64 z, .bool false])) (h2 : JNoW rb s (c :: r, 70) w') : JBeg base rb s out H key e bad (c :: r) y w' := by
 simp only [JBeg]
 rw [if_pos hb]
 exact ⟨h1, h2⟩
theorem JBeg.no5 (hb : ¬ begB c = false) (ho : 4000 ≤ out.length) (h1 : ∃ z : Int, y = .returned (.tuple #[.int .i64 z, .bool false])) (h2 : JNoW rb s (c :: r, 5) w') : JBeg base rb s out H key e bad (c :: r) y w' := by
 simp only [JBeg]
 rw [if_neg hb, if_pos ho]
 exact ⟨h1, h2⟩
theorem JBeg.no72 (hb : ¬ begB c = false) (ho : ¬ 4000 ≤ out.length) (hH : 64 ≤ H.length) (h1 : ∃ z : Int, y = .returned (.tuple #[.int .i64 z, .bool false])) (h2 : JNoW rb s (c :: r, 72) w') : JBeg base rb s out H key e bad (c :: r) y w' := by
 simp only [JBeg]
 rw [if_neg hb, if_neg ho, if_pos hH]
 exact ⟨h1, h2⟩
theorem JBeg.open_ (hb : ¬ begB c = false) (ho : ¬ 4000 ≤ out.length) (hH : ¬ 64 ≤ H.length) (hc : c = 91 ∨ c = 123) (h1 : y = .returned (.tuple #[.int .i64 (if c = 123 then 3 else 1), .bool true])) (h2 : JOk base rb s (out ++ [⟨kindOf (c == 123), key, 0, none_, 1⟩]) (⟨out.length, []⟩ :: H) none_ e bad r w') : JBeg base rb s out H key e bad (c :: r) y w' := by
 simp only [JBeg]
 rw [if_neg hb, if_neg ho, if_neg hH, if_pos hc]
 exact ⟨h1, h2⟩
theorem JBeg.no_leaf (hb : ¬ begB c = false) (ho : ¬ 4000 ≤ out.length) (hH : ¬ 64 ≤ H.length) (hc : ¬ (c = 91 ∨ c = 123)) {b : Bad} (hl : leafV c (c :: r) = .error b) (h1 : ∃ z : Int, y = .returned (.tuple #[.int .i64 z, .bool false])) (h2 : JNoW rb s b w') : JBeg base rb s out H key e bad (c :: r) y w' := by
 simp only [JBeg]
 rw [if_neg hb, if_neg ho, if_neg hH, if_neg hc, hl]
 exact ⟨h1, h2⟩
theorem JBeg.leaf (hb : ¬ begB c = false) (ho : ¬ 4000 ≤ out.length) (hH : ¬ 64 ≤ H.length) (hc : ¬ (c = 91 ∨ c = 123)) {j : J} {r2 : List UInt8} (hl : leafV c (c :: r) = .ok (j, r2)) (h1 : y = .returned (.tuple #[.int .i64 4, .bool true])) (h2 : JOk base rb s (out ++ (j.rekey key).flat) H none_ e bad r2 w') : JBeg base rb s out H key e bad (c :: r) y w' := by
 simp only [JBeg]
 rw [if_neg hb, if_neg ho, if_neg hH, if_neg hc, hl]
 exact ⟨h1, h2⟩
end
end Go.Proofs.YthlfljmfggmfdaaGreatDoor

/-! ###  -/
namespace Go.Proofs.YthlfljmfggmfdaaGreatDoor
open Go.RowKit
set_option maxRecDepth 100000 in
set_option maxHeartbeats 4000000 in
theorem begin_leaf (base rb : Nat) (s : ByteArray) (n : Nat) (l : List UInt8) (out : List Nd) (H : List Jh) (key : ByteArray) (e bad : Int) (w : World)
 (h : JR base rb s n out H key e bad w) (ha : JAt s n l) (hs : s.size ≤ 1073741824) (hE : Ever base w) (hH : H.length ≤ 64) (ho : out.length ≤ 4000)
 (hno : ∀ c r, l = c :: r → ¬ (c = 91 ∨ c = 123) ∨ 4000 ≤ out.length ∨ 64 ≤ H.length) :
 Calls Tryz.prog 64 #[.pointer (some ⟨rb, 0, none⟩)] w fun y w' => JBeg base rb s out H key e bad l y w' ∧ RowKit.Below base w w' := by
 have HA := hide ha
 have HE := hide hE
 have hbw := hide (show base ≤ w.heap.size from Nat.le_trans h.low (Nat.le_of_lt h.lt))
 have hn := HA.out.le
 have hmm := @run_makeMap Tryz.prog
 obtain ⟨w1, w2, w3, w4, w5, w6, r1, r2, r3, r4, r5, r6, mk, o6⟩ := kinds_made w
 have MK := hide mk
 have J6 := hide (h.old o6)
 have B6 := hide (RowKit.Below.mono o6 hbw.out)
 have hb6 := hide (Nat.le_trans hbw.out B6.out.size)
 obtain ⟨ov, hv, ⟨x0, x1, x2, x3, x4, _, _⟩, _, _, hop⟩ := J6.out.cells
 have y0 : ∀ p : Later w6, p.world.cell? ⟨rb, 0, none⟩ = some (.string s) := fun p => p.old.cell x0
 have y1 : ∀ p : Later w6, p.world.cell? ⟨rb, 1, none⟩ = some (.int .i64 (n : Int)) := fun p => p.old.cell x1
 obtain ⟨mb, hmb⟩ : ∃ mb, w.heap.size = mb := ⟨_, rfl⟩
 rw [hmb] at MK
 have HMB := hide hmb
 clear h ha hE mk o6 hmb x0 x1 x2 x3 x4 hop
 cases l with
 | nil =>
   clear hno
   have hq : ((n : Int) == (s.size : Int)) = true := by have := HA.out.len; simp only [List.length_nil] at this; simp; omega
   have CF := hide (fun w' (j : JR base rb s n out H key e bad w') => jfail_run base rb s n out H key e bad w' j (n : Int) 70)
   go_enter Tryz.func64, Tryz.ntmps64
   go_wp2_with fail
   rw [HMB.out]
   clear r1 r2 r3 r4 r5 r6 hmm
   refine region_later (by kernel_rfl) (by kernel_rfl) ?_
   repeat (go_big_quiet_step (fail))
   refine wpQuiet_nil ?_
   rintro w7 ⟨⟨_, o7⟩, rfl⟩
   have J7 := hide (J6.out.old o7)
   have B7 := hide (B6.out.trans (RowKit.Below.mono o7 hb6.out))
   have z1 : w7.cell? ⟨rb, 1, none⟩ = some (.int .i64 (n : Int)) := y1 ⟨w7, o7⟩
   have CG := hide (CF.out w7 J7.out)
   clear o7 y0 y1 CF
   go_wp2_with fail
   refine CG.out.mono ?_
   rintro y w8 ⟨rfl, j8, b8⟩
   have J8 := hide j8
   have B8 := hide (B7.out.trans b8)
   clear j8 b8
   go_wp2_with fail
   go_ret2
   exact ⟨⟨⟨0, rfl⟩, JNo.weak ⟨n, n, out, H, key, HA.out, J8.out⟩⟩, B8.out⟩
 | cons c r =>
   have HNO := hide (hno c r rfl)
   clear hno
   obtain ⟨b1, b2, b3⟩ := byte_at HA.out.rest
   have bx : s[n] = c := by rw [get_at s b1, b2]
   have hq : ((n : Int) == (s.size : Int)) = false := beq_eq_false_iff_ne.2 (by omega)
   have hnlt : (n : Int) < (s.size : Int) := by omega
   obtain ⟨K0, hK0⟩ : ∃ K0, Hid (kindB c = K0) := ⟨_, hide rfl⟩
   obtain ⟨K, hK⟩ : ∃ K, Hid (kindV c = K) := ⟨_, hide rfl⟩
   obtain ⟨i0, i1, i2, i6, i7, i8, i9, i10, i11⟩ := beg_is c
   rw [hK.out] at i0 i1 i2 i6 i7 i8 i9 i10 i11
   have I0 := hide i0
   have I6 := hide i6
   have I7 := hide i7
   have I1 := hide i8
   have I2 := hide i9
   have I3 := hide i10
   have I5 := hide i11
   have HN := hide HA.out.next
   clear b2 b3 i0 i6 i7 i8 i9 i10 i11
   go_enter Tryz.func64, Tryz.ntmps64
   go_wp2_with fail
   rw [HMB.out]
   clear r1 r2 r3 r4 r5 r6 hmm
   refine region_later (by kernel_rfl) (by kernel_rfl) ?_
   repeat (go_big_quiet_step (fail))
   refine wpQuiet_nil ?_
   rintro w7 ⟨⟨_, o7⟩, rfl⟩
   have J7 := hide (J6.out.old o7)
   have B7 := hide (B6.out.trans (RowKit.Below.mono o7 hb6.out))
   have hb7 := hide (Nat.le_trans hbw.out B7.out.size)
   have MK7 := hide (MK.out.same fun o ho => o7.heap ho)
   have z0 : ∀ p : Later w7, p.world.cell? ⟨rb, 0, none⟩ = some (.string s) := fun p => y0 ⟨p.world, Old.trans o7 p.old⟩
   have z1 : ∀ p : Later w7, p.world.cell? ⟨rb, 1, none⟩ = some (.int .i64 (n : Int)) := fun p => y1 ⟨p.world, Old.trans o7 p.old⟩
   clear o7 y0 y1
   go_wp2_with fail
   refine region_later (by kernel_rfl) (by kernel_rfl) ?_
   repeat (go_big_quiet_step (fail))
   refine wpQuiet_nil ?_
   rintro w8 ⟨⟨_, o8⟩, rfl⟩
   have J8 := hide (J7.out.old o8)
   have B8 := hide (B7.out.trans (RowKit.Below.mono o8 hb7.out))
   have hb8 := hide (Nat.le_trans hbw.out B8.out.size)
   have MK8 := hide (MK7.out.same fun o ho => o8.heap ho)
   clear o8 z0 z1
   go_upto_region 6 with (at_lookup; refine wpList_kind _ rfl _ _ rfl _ rfl MK8.out c rfl K0 hK0.out ?_)
   obtain ⟨T, hT⟩ : ∃ T, Hid (decide (c.toNat = 45 ∨ (48 ≤ c.toNat ∧ c.toNat ≤ 57)) = T) := ⟨_, hide rfl⟩
   have KT := hide (show K = if T then 4 else K0 by
    rw [← hK.out, ← hT.out, ← hK0.out]
    unfold kindV
    by_cases h : c.toNat = 45 ∨ (48 ≤ c.toNat ∧ c.toNat ≤ 57)
    · rw [if_pos h, decide_eq_true h]; rfl
    · rw [if_neg h, decide_eq_false h]; rfl)
   go_cut [47] (fun bv wc => bv = .bool T ∧ wc = w8)
   case first =>
    by_cases h45 : c.toNat = 45
    · have q1 : ((c.toNat : Int) == 45) = true := by simp; omega
      have ET := hide (show true = T by rw [← hT.out]; exact (decide_eq_true (.inl h45)).symm)
      clear h45
      go_wp2_with fail
      go_meet
      exact ⟨by rw [ET.out], rfl⟩
    · have q1 : ((c.toNat : Int) == 45) = false := by simp; omega
      by_cases h48 : 48 ≤ c.toNat
      · have g1 : (48 : Int) ≤ (c.toNat : Int) := by omega
        have d1 : decide ((48 : Int) ≤ (c.toNat : Int)) = true := decide_eq_true g1
        by_cases h57 : c.toNat ≤ 57
        · have g2 : (c.toNat : Int) ≤ 57 := by omega
          have d2 : decide ((c.toNat : Int) ≤ 57) = true := decide_eq_true g2
          have ET := hide (show true = T by rw [← hT.out]; exact (decide_eq_true (.inr ⟨h48, h57⟩)).symm)
          clear h45 h48 h57
          go_wp2_with fail
          go_meet
          exact ⟨by rw [ET.out], rfl⟩
        · have g2 : ¬ (c.toNat : Int) ≤ 57 := by omega
          have d2 : decide ((c.toNat : Int) ≤ 57) = false := decide_eq_false g2
          have ET := hide (show false = T by rw [← hT.out]; exact (decide_eq_false (by omega)).symm)
          clear h45 h48 h57
          go_wp2_with fail
          go_meet
          exact ⟨by rw [ET.out], rfl⟩
      · have g1 : ¬ (48 : Int) ≤ (c.toNat : Int) := by omega
        have d1 : decide ((48 : Int) ≤ (c.toNat : Int)) = false := decide_eq_false g1
        have ET := hide (show false = T by rw [← hT.out]; exact (decide_eq_false (by omega)).symm)
        clear h45 h48
        go_wp2_with fail
        go_meet
        exact ⟨by rw [ET.out], rfl⟩
   case rest =>
    obtain ⟨rfl, rfl⟩ := hcut
    go_upto_if 47 with fail
    go_cut [6] (fun kv wd => kv = .int .i64 K ∧ wd = wc)
    case first =>
     cases T
     · have EK := hide (show K0 = K from KT.out.symm)
       go_wp2_with fail
       go_meet
       exact ⟨by rw [EK.out], rfl⟩
     · have EK := hide (show 4 = K from KT.out.symm)
       go_wp2_with fail
       go_meet
       exact ⟨by rw [EK.out], rfl⟩
    case rest =>
     obtain ⟨rfl, rfl⟩ := hcut
     obtain ⟨_, ov8, hv8, g1, g2, g3⟩ := J8.out
     obtain ⟨Ao, co, rfl, a1, a2, _⟩ := SlT.of_own g2
     obtain ⟨Ah, ch, rfl, a3, a4⟩ := g3.form
     have x1 := (cell_of_heap (i := 1) g1).trans rfl
     have x2 := (cell_of_heap (i := 2) g1).trans rfl
     have x3 := (cell_of_heap (i := 3) g1).trans rfl
     have OW := hide g2
     have G1 := hide g1
     obtain ⟨N, hN⟩ : ∃ N, Hid (out.length = N) := ⟨_, hide rfl⟩
     obtain ⟨M, hM⟩ : ∃ M, Hid (H.length = M) := ⟨_, hide rfl⟩
     rw [hN.out] at ho a1 x2
     rw [hM.out] at hH a3 x3
     unfold maxLen at a2 a4
     clear g1 g2 g3
     by_cases h0 : K = 0
     · subst h0
       have NB := hide (I0.out.2 rfl)
       have CF := hide (jfail_run base rb s n out H key e bad _ J8.out (n : Int) 70)
       go_wp2_with fail
       refine CF.out.mono ?_
       rintro y w9 ⟨rfl, j9, b9⟩
       have J9 := hide j9
       have B9 := hide (B8.out.trans b9)
       clear j9 b9
       go_wp2_with fail
       go_ret2
       exact ⟨JBeg.no70 NB.out ⟨0, rfl⟩ (JNo.weak ⟨n, n, out, H, key, HA.out, J9.out⟩), B9.out⟩
     have NB := hide (show ¬ begB c = false from fun h => h0 (I0.out.1 h))
     have h0' : (K == 0) = false := beq_eq_false_iff_ne.2 h0
     clear h0
     by_cases hN4 : N = 4000
     · subst hN4
       have L4 := hide (show 4000 ≤ out.length by rw [hN.out]; exact Nat.le_refl _)
       have CF := hide (jfail_run base rb s n out H key e bad _ J8.out (n : Int) 5)
       go_wp2_with fail
       refine CF.out.mono ?_
       rintro y w9 ⟨rfl, j9, b9⟩
       have J9 := hide j9
       have B9 := hide (B8.out.trans b9)
       clear j9 b9
       go_wp2_with fail
       go_ret2
       exact ⟨JBeg.no5 NB.out L4.out ⟨0, rfl⟩ (JNo.weak ⟨n, n, out, H, key, HA.out, J9.out⟩), B9.out⟩
     have L4 := hide (show ¬ 4000 ≤ out.length by rw [hN.out]; omega)
     have hN4' : ((N : Int) == 4000) = false := beq_eq_false_iff_ne.2 (by omega)
     have hNlt : N < 4000 := by omega
     clear hN4
     by_cases hM4 : M = 64
     · subst hM4
       have L6 := hide (show 64 ≤ H.length by rw [hM.out]; exact Nat.le_refl _)
       have CF := hide (jfail_run base rb s n out H key e bad _ J8.out (n : Int) 72)
       go_wp2_with fail
       refine CF.out.mono ?_
       rintro y w9 ⟨rfl, j9, b9⟩
       have J9 := hide j9
       have B9 := hide (B8.out.trans b9)
       clear j9 b9
       go_wp2_with fail
       go_ret2
       exact ⟨JBeg.no72 NB.out L4.out L6.out ⟨0, rfl⟩ (JNo.weak ⟨n, n, out, H, key, HA.out, J9.out⟩), B9.out⟩
     have L6 := hide (show ¬ 64 ≤ H.length by rw [hM.out]; omega)
     have hM4' : ((M : Int) == 64) = false := beq_eq_false_iff_ne.2 (by omega)
     have hMlt : M < 64 := by omega
     clear hM4
     go_upto_region 14 with fail
     go_cut [] (fun wd => Hid (JR base rb s n (out ++ [⟨K, key, 0, none_, 1⟩]) H key e bad wd) ∧ Hid (RowKit.Below base w wd))
     case first =>
      obtain ⟨_, _, ⟨_, _, x2, _, x4, _, _⟩, _⟩ := J8.out.cells
      obtain ⟨cs, hcs⟩ : ∃ cs, jrCells s n (.slice Ao N co) (.slice Ah M ch) key e bad = cs := ⟨_, rfl⟩
      have M0 := hide (show JMid base rb cs wc wc from ⟨Below.refl _ _, by rw [← hcs, ← hN.out, ← hM.out]; exact G1.out⟩)
      have y2 : ∀ p : Later wc, p.world.cell? ⟨rb, 2, none⟩ = some (.slice Ao N co) := fun p => by
       have g := G1.out
       rw [hN.out] at g
       exact (cell_of_heap (i := 2) (p.old.heap g)).trans rfl
      have y4 : ∀ p : Later wc, p.world.cell? ⟨rb, 4, none⟩ = some (.string key) := fun p => (cell_of_heap (i := 4) (p.old.heap G1.out)).trans rfl
      have hlen : out.length + [(⟨K, key, 0, none_, 1⟩ : Nd)].length ≤ 4194304 := by rw [hN.out]; simp; omega
      have MC := hide (fun w' (h : JMid base rb cs wc w') => show w'.cell? ⟨rb, 2, none⟩ = some (.slice Ao N co) ∧ w'.frozen? ⟨rb, 2, none⟩ = false from by
       rw [← hcs] at h
       exact ⟨(cell_of_heap (i := 2) h.blk).trans rfl, free_of_heap h.blk⟩)
      clear hcs x2 x3 x4
      have x2 : wc.cell? ⟨rb, 2, none⟩ = some (.slice Ao N co) := (MC.out _ M0.out).1
      have x4 : wc.cell? ⟨rb, 4, none⟩ = some (.string key) := y4 ⟨wc, Old.refl _⟩
      have x2a : ∀ o, (wc.alloc o).cell? ⟨rb, 2, none⟩ = some (.slice Ao N co) := fun o => y2 ⟨wc.alloc o, Old.alloc (Old.refl _) _⟩
      have x4a : ∀ o, (wc.alloc o).cell? ⟨rb, 4, none⟩ = some (.string key) := fun o => y4 ⟨wc.alloc o, Old.alloc (Old.refl _) _⟩
      clear y2 y4
      go_region_law (first
       | (refine step_push_nd _ _ _ rfl base _ out rfl (by rw [← hN.out]; first | exact own_old OW.out (Old.drew (Old.alloc (Old.refl _) _)) | exact own_old OW.out (Old.alloc (Old.drew (Old.refl _)) _) | exact own_old OW.out (Old.alloc (Old.refl _) _)) _ [⟨K, key, 0, none_, 1⟩] rfl (by first | exact nd_one _ _ _ _ _ rfl | exact Sl.old (nd_one _ _ _ _ _ rfl) (Old.drew (Old.refl _))) hlen (by first | exact hb8.out | (simp; have := hb8.out; omega)) ?_
          intro v9 w9 own9 kept9
          obtain ⟨A9, c9, rfl, a9, b9, _⟩ := SlT.of_own own9
          have m9 := hide (JMid.push (by first | exact JMid.drew (JMid.alloc M0.out hb8.out _) | exact JMid.alloc (JMid.drew M0.out) hb8.out _ | exact JMid.alloc M0.out hb8.out _) kept9)
          have j9 := hide (JR.push (J8.out.old (by first | exact Old.drew (Old.alloc (Old.refl _) _) | exact Old.alloc (Old.drew (Old.refl _)) _ | exact Old.alloc (Old.refl _) _)) kept9 own9)
          obtain ⟨cz9, fz9⟩ := MC.out _ m9.out
          rw [show (out ++ [(⟨K, key, 0, none_, 1⟩ : Nd)]).length = out.length + 1 by simp] at j9
          clear own9 kept9))
      all_goals
       have BZ := hide (B8.out.trans (m9.out.low.setCell (p := ⟨rb, 2, none⟩) J8.out.low (.slice A9 (out.length + 1) c9)))
       go_wp2_with fail
       go_meet
       exact ⟨j9, BZ⟩
     case rest =>
      obtain ⟨J9, B9⟩ := hcut
      obtain ⟨out', ho'⟩ : ∃ out', Hid (out ++ [(⟨K, key, 0, none_, 1⟩ : Nd)] = out') := ⟨_, hide rfl⟩
      rw [ho'.out] at J9
      obtain ⟨_, _, ⟨_, _, _, _, x4, _, _⟩, hf, _, _⟩ := J9.out.cells
      have f4 := hf 4
      have LW := hide (show ∀ w10, w10 = wc.setCell ⟨rb, 4, none⟩ (.string ⟨#[]⟩) → JR base rb s n out' H none_ e bad w10 ∧ RowKit.Below base w w10 from fun w10 hw => by
       subst hw
       exact ⟨J9.out.setKey ⟨#[]⟩, B9.out.trans (J9.out.keepAt 4 _)⟩)
      clear hf x1 x2 x3
      go_upto_region 16 with fail
      generalize hw10 : wc.setCell ⟨rb, 4, none⟩ (.string ⟨#[]⟩) = w10
      obtain ⟨j10, b10⟩ := LW.out _ hw10.symm
      have J10 := hide j10
      have B10 := hide b10
      have hb10 := hide (Nat.le_trans hbw.out b10.size)
      obtain ⟨M1, hM1⟩ : ∃ M1, Hid (out'.length = M1) := ⟨_, hide rfl⟩
      have hM1N : M1 = N + 1 := by rw [← hM1.out, ← ho'.out, List.length_append, hN.out]; rfl
      have hNM : N < M1 := by omega
      have hM4 : M1 ≤ 4000 := by omega
      have hq2 : IntKind.i64.wrap ((M1 : Int) - 1) = (N : Int) := by
       rw [show (M1 : Int) - 1 = (N : Int) by omega]
       exact IntWalk.i64_in _ (by omega)
      have HMN := hide hM1N
      clear hM1N
      obtain ⟨g, cg, e1, e2, e3⟩ := j10.node (by rw [hM1.out]; omega)
      have E1 := hide e1
      unfold maxLen at e3
      rw [hM1.out] at e1 e2
      have y2 : ∀ p : Later w10, p.world.cell? ⟨rb, 2, none⟩ = some (.slice (some ⟨g, 0, none⟩) M1 cg) := fun p => p.old.cell e1
      clear LW hw10 j10 b10 x4 f4 e1
      refine region_later (by kernel_rfl) (by kernel_rfl) ?_
      repeat (go_big_quiet_step (fail))
      refine wpQuiet_nil ?_
      rintro w11 ⟨⟨_, o11⟩, rfl⟩
      have J11 := hide (J10.out.old o11)
      have B11 := hide (B10.out.trans (RowKit.Below.mono o11 hb10.out))
      have hb11 := hide (Nat.le_trans hbw.out B11.out.size)
      have E11 := hide (o11.cell E1.out)
      clear o11 y2 hq2
      have hK0n : K ≠ 0 := by simpa using h0'
      have seven : K = 4 ∨ K = 5 ∨ (K = 6 ∨ K = 7) ∨ (K = 1 ∨ K = 2 ∨ K = 3) := by omega
      clear h0' hK0n i1 i2
      rcases seven with rfl | rfl | seven | seven
      · skip
        have NC := hide (show ¬ (c = 91 ∨ c = 123) from fun h => by
         rcases h with h | h
         · exact absurd (I6.out.2 h) (by decide)
         · exact absurd (I7.out.2 h) (by decide))
        have LV := hide (show leafV c (c :: r) = match numV (c :: r) with | .error b => .error b | .ok (v, r2) => .ok (oneJ 4 v none_, r2) by
         unfold leafV
         rw [if_neg (fun h => absurd (I1.out.2 h) (by decide)), if_neg (fun h => absurd (I2.out.2 h) (by decide)), if_neg (fun h => absurd (I3.out.2 h) (by decide)), if_neg (fun h => absurd (I5.out.2 h) (by decide))]
         cases numV (c :: r) <;> rfl)
        have CN := hide (jnum_runB base rb s n (c :: r) out' H none_ e bad w11 J11.out HA.out hs (HE.out.next B11.out))
        obtain ⟨cur, q1, q2, q3, q4⟩ := J11.out.nodeHeap E11.out (by rw [hM1.out]; omega)
        have q5 : cur[N * 5 + 2]? = some (.int .i64 0) := q4 _ _ (by rw [← ho'.out, ← hN.out]; exact nd_lastk out _ 2 (by decide))
        have Q1 := hide q1
        have Q3 := hide q3
        clear q1 q4
        cases hv : numV (c :: r) with
        | error b =>
          rw [hv] at CN LV
          clear hv
          go_wp2_with fail
          refine CN.out.mono ?_
          rintro y w12 ⟨⟨rfl, k12⟩, b12⟩
          have hh := b12.one.heap Q1.out (Ne.symm q2)
          have z2 : w12.cell? ⟨g, N * 5 + 2, none⟩ = some (.int .i64 0) := (cell_of_heap hh).trans q5
          have fz : w12.frozen? ⟨g, N * 5 + 2, none⟩ = false := free_of_heap hh
          have K12 := hide (k12.weak.set (i := N * 5 + 2) q2 (.int .i64 0))
          have B12 := hide ((B11.out.trans b12.low).setCell (p := ⟨g, N * 5 + 2, none⟩) Q3.out (.int .i64 0))
          clear k12 b12 hh
          go_wp2_with fail
          go_ret2
          exact ⟨JBeg.no_leaf NB.out L4.out L6.out NC.out LV.out ⟨_, rfl⟩ K12.out, B12.out⟩
        | ok x =>
          obtain ⟨v, r2⟩ := x
          rw [hv] at CN LV
          clear hv
          go_wp2_with fail
          refine CN.out.mono ?_
          rintro y w12 ⟨⟨rfl, k12⟩, b12⟩
          have hh := b12.one.heap Q1.out (Ne.symm q2)
          have z2 : w12.cell? ⟨g, N * 5 + 2, none⟩ = some (.int .i64 0) := (cell_of_heap hh).trans q5
          have fz : w12.frozen? ⟨g, N * 5 + 2, none⟩ = false := free_of_heap hh
          have K12 := hide (show JOk base rb s (out ++ (J.rekey key (oneJ 4 v none_)).flat) H none_ e bad r2 (w12.setCell ⟨g, N * 5 + 2, none⟩ (.int .i64 v)) from by
           obtain ⟨m, a12, j12⟩ := k12
           obtain ⟨_, _, _, st⟩ := j12.nodeAt (b12.row _ E11.out) (by rw [hM1.out]; omega)
           refine ⟨m, a12, st _ _ _ ?_ ?_⟩
           · rw [← ho'.out, ← hN.out]
             exact nd_setk out _ _ 2 _ (by decide) rfl
           · rw [← ho'.out, List.length_append, List.length_append]
             rfl)
          have B12 := hide ((B11.out.trans b12.low).setCell (p := ⟨g, N * 5 + 2, none⟩) Q3.out (.int .i64 v))
          clear k12 b12 hh
          go_wp2_with fail
          go_ret2
          exact ⟨JBeg.leaf NB.out L4.out L6.out NC.out LV.out rfl K12.out, B12.out⟩
      · skip
        have NC := hide (show ¬ (c = 91 ∨ c = 123) from fun h => by
         rcases h with h | h
         · exact absurd (I6.out.2 h) (by decide)
         · exact absurd (I7.out.2 h) (by decide))
        have LV := hide (show leafV c (c :: r) = match litV (c :: r) with | .error b => .error b | .ok (v, r2) => .ok (oneJ 5 0 (bT v), r2) by
         unfold leafV
         rw [if_neg (fun h => absurd (I1.out.2 h) (by decide)), if_neg (fun h => absurd (I2.out.2 h) (by decide)), if_neg (fun h => absurd (I3.out.2 h) (by decide)), if_pos (I5.out.1 rfl)]
         cases litV (c :: r) <;> rfl)
        have CN := hide (literal_runB base rb s n (c :: r) out' H none_ e bad w11 J11.out HA.out hs (HE.out.next B11.out))
        obtain ⟨cur, q1, q2, q3, q4⟩ := J11.out.nodeHeap E11.out (by rw [hM1.out]; omega)
        have q5 : cur[N * 5 + 3]? = some (.string ⟨#[]⟩) := q4 _ _ (by rw [← ho'.out, ← hN.out]; exact nd_lastk out _ 3 (by decide))
        have Q1 := hide q1
        have Q3 := hide q3
        clear q1 q4
        cases hv : litV (c :: r) with
        | error b =>
          rw [hv] at CN LV
          clear hv
          go_wp2_with fail
          refine CN.out.mono ?_
          rintro y w12 ⟨⟨rfl, k12⟩, b12⟩
          have hh := b12.one.heap Q1.out (Ne.symm q2)
          have z2 : w12.cell? ⟨g, N * 5 + 3, none⟩ = some (.string ⟨#[]⟩) := (cell_of_heap hh).trans q5
          have fz : w12.frozen? ⟨g, N * 5 + 3, none⟩ = false := free_of_heap hh
          have K12 := hide (k12.weak.set (i := N * 5 + 3) q2 (.string ⟨#[]⟩))
          have B12 := hide ((B11.out.trans b12.low).setCell (p := ⟨g, N * 5 + 3, none⟩) Q3.out (.string ⟨#[]⟩))
          clear k12 b12 hh
          go_wp2_with fail
          go_ret2
          exact ⟨JBeg.no_leaf NB.out L4.out L6.out NC.out LV.out ⟨_, rfl⟩ K12.out, B12.out⟩
        | ok x =>
          obtain ⟨v, r2⟩ := x
          rw [hv] at CN LV
          clear hv
          go_wp2_with fail
          refine CN.out.mono ?_
          rintro y w12 ⟨⟨rfl, k12⟩, b12⟩
          have hh := b12.one.heap Q1.out (Ne.symm q2)
          have z2 : w12.cell? ⟨g, N * 5 + 3, none⟩ = some (.string ⟨#[]⟩) := (cell_of_heap hh).trans q5
          have fz : w12.frozen? ⟨g, N * 5 + 3, none⟩ = false := free_of_heap hh
          have K12 := hide (show JOk base rb s (out ++ (J.rekey key (oneJ 5 0 (bT v))).flat) H none_ e bad r2 (w12.setCell ⟨g, N * 5 + 3, none⟩ (.string (bT v))) from by
           obtain ⟨m, a12, j12⟩ := k12
           obtain ⟨_, _, _, st⟩ := j12.nodeAt (b12.row _ E11.out) (by rw [hM1.out]; omega)
           refine ⟨m, a12, st _ _ _ ?_ ?_⟩
           · rw [← ho'.out, ← hN.out]
             exact nd_setk out _ _ 3 _ (by decide) rfl
           · rw [← ho'.out, List.length_append, List.length_append]
             rfl)
          have B12 := hide ((B11.out.trans b12.low).setCell (p := ⟨g, N * 5 + 3, none⟩) Q3.out (.string (bT v)))
          clear k12 b12 hh
          go_wp2_with fail
          go_ret2
          exact ⟨JBeg.leaf NB.out L4.out L6.out NC.out LV.out rfl K12.out, B12.out⟩
      · exfalso
        rcases HNO.out with h | h | h
        · apply h
          rcases seven with rfl | rfl
          · exact .inl (I6.out.1 rfl)
          · exact .inr (I7.out.1 rfl)
        · exact L4.out h
        · exact L6.out h
      · rcases seven with rfl | rfl | rfl
        · skip
          have NC := hide (show ¬ (c = 91 ∨ c = 123) from fun h => by
           rcases h with h | h
           · exact absurd (I6.out.2 h) (by decide)
           · exact absurd (I7.out.2 h) (by decide))
          have LV := hide (show leafV c (c :: r) = match wordV [110, 117, 108, 108] (c :: r) with | .error b => .error b | .ok r2 => .ok (oneJ 1 0 none_, r2) by
           unfold leafV
           rw [if_pos (I1.out.1 rfl)]
           cases wordV [110, 117, 108, 108] (c :: r) <;> rfl)
          obtain ⟨W, hW⟩ : ∃ W, Hid (wordV [110, 117, 108, 108] (c :: r) = W) := ⟨_, hide rfl⟩
          rw [hW.out] at LV
          have CW := hide (fun w' (o : Old w11 w') => word_runB base rb s n (c :: r) out' H none_ e bad w' (J11.out.old o) HA.out hs ⟨#[110, 117, 108, 108]⟩ (by decide) W hW.out)
          go_wp2_with fail
          refine (CW.out _ (Old.alloc (Old.refl _) _)).mono ?_
          rintro y w12 ⟨k12, b12⟩
          have B12 := hide (B11.out.trans ((RowKit.Below.mono (Old.alloc (Old.refl w11) _) hb11.out).trans b12.low))
          clear b12 CW
          cases W with
          | error b =>
            obtain ⟨rfl, k12⟩ := k12
            have K12 := hide k12.weak
            clear k12
            go_wp2_with fail
            go_ret2
            exact ⟨JBeg.no_leaf NB.out L4.out L6.out NC.out LV.out ⟨_, rfl⟩ K12.out, B12.out⟩
          | ok r2 =>
            obtain ⟨rfl, k12⟩ := k12
            have K12 := hide (show JOk base rb s (out ++ (J.rekey key (oneJ 1 0 none_)).flat) H none_ e bad r2 w12 by rw [← ho'.out] at k12; exact k12)
            clear k12
            go_wp2_with fail
            go_ret2
            exact ⟨JBeg.leaf NB.out L4.out L6.out NC.out LV.out rfl K12.out, B12.out⟩
        · skip
          have NC := hide (show ¬ (c = 91 ∨ c = 123) from fun h => by
           rcases h with h | h
           · exact absurd (I6.out.2 h) (by decide)
           · exact absurd (I7.out.2 h) (by decide))
          have LV := hide (show leafV c (c :: r) = match wordV [102, 97, 108, 115, 101] (c :: r) with | .error b => .error b | .ok r2 => .ok (oneJ 2 0 none_, r2) by
           unfold leafV
           rw [if_neg (fun h => absurd (I1.out.2 h) (by decide)), if_pos (I2.out.1 rfl)]
           cases wordV [102, 97, 108, 115, 101] (c :: r) <;> rfl)
          obtain ⟨W, hW⟩ : ∃ W, Hid (wordV [102, 97, 108, 115, 101] (c :: r) = W) := ⟨_, hide rfl⟩
          rw [hW.out] at LV
          have CW := hide (fun w' (o : Old w11 w') => word_runB base rb s n (c :: r) out' H none_ e bad w' (J11.out.old o) HA.out hs ⟨#[102, 97, 108, 115, 101]⟩ (by decide) W hW.out)
          go_wp2_with fail
          refine (CW.out _ (Old.alloc (Old.refl _) _)).mono ?_
          rintro y w12 ⟨k12, b12⟩
          have B12 := hide (B11.out.trans ((RowKit.Below.mono (Old.alloc (Old.refl w11) _) hb11.out).trans b12.low))
          clear b12 CW
          cases W with
          | error b =>
            obtain ⟨rfl, k12⟩ := k12
            have K12 := hide k12.weak
            clear k12
            go_wp2_with fail
            go_ret2
            exact ⟨JBeg.no_leaf NB.out L4.out L6.out NC.out LV.out ⟨_, rfl⟩ K12.out, B12.out⟩
          | ok r2 =>
            obtain ⟨rfl, k12⟩ := k12
            have K12 := hide (show JOk base rb s (out ++ (J.rekey key (oneJ 2 0 none_)).flat) H none_ e bad r2 w12 by rw [← ho'.out] at k12; exact k12)
            clear k12
            go_wp2_with fail
            go_ret2
            exact ⟨JBeg.leaf NB.out L4.out L6.out NC.out LV.out rfl K12.out, B12.out⟩
        · skip
          have NC := hide (show ¬ (c = 91 ∨ c = 123) from fun h => by
           rcases h with h | h
           · exact absurd (I6.out.2 h) (by decide)
           · exact absurd (I7.out.2 h) (by decide))
          have LV := hide (show leafV c (c :: r) = match wordV [116, 114, 117, 101] (c :: r) with | .error b => .error b | .ok r2 => .ok (oneJ 3 0 none_, r2) by
           unfold leafV
           rw [if_neg (fun h => absurd (I1.out.2 h) (by decide)), if_neg (fun h => absurd (I2.out.2 h) (by decide)), if_pos (I3.out.1 rfl)]
           cases wordV [116, 114, 117, 101] (c :: r) <;> rfl)
          obtain ⟨W, hW⟩ : ∃ W, Hid (wordV [116, 114, 117, 101] (c :: r) = W) := ⟨_, hide rfl⟩
          rw [hW.out] at LV
          have CW := hide (fun w' (o : Old w11 w') => word_runB base rb s n (c :: r) out' H none_ e bad w' (J11.out.old o) HA.out hs ⟨#[116, 114, 117, 101]⟩ (by decide) W hW.out)
          go_wp2_with fail
          refine (CW.out _ (Old.alloc (Old.refl _) _)).mono ?_
          rintro y w12 ⟨k12, b12⟩
          have B12 := hide (B11.out.trans ((RowKit.Below.mono (Old.alloc (Old.refl w11) _) hb11.out).trans b12.low))
          clear b12 CW
          cases W with
          | error b =>
            obtain ⟨rfl, k12⟩ := k12
            have K12 := hide k12.weak
            clear k12
            go_wp2_with fail
            go_ret2
            exact ⟨JBeg.no_leaf NB.out L4.out L6.out NC.out LV.out ⟨_, rfl⟩ K12.out, B12.out⟩
          | ok r2 =>
            obtain ⟨rfl, k12⟩ := k12
            have K12 := hide (show JOk base rb s (out ++ (J.rekey key (oneJ 3 0 none_)).flat) H none_ e bad r2 w12 by rw [← ho'.out] at k12; exact k12)
            clear k12
            go_wp2_with fail
            go_ret2
            exact ⟨JBeg.leaf NB.out L4.out L6.out NC.out LV.out rfl K12.out, B12.out⟩
end Go.Proofs.YthlfljmfggmfdaaGreatDoor
