/-  -/
import Derived.Test.YthlfljmfggmfdaaGreatDoorQk32
import Derived.Test.YthlfljmfggmfdaaGreatDoorQk10
import Derived.Lib.ParseIntBTie
/-! ###  -/
namespace Go.Proofs.YthlfljmfggmfdaaGreatDoor
open Go.RowKit
def JOk (base rb : Nat) (s : ByteArray) (out : List Nd) (H : List Jh) (key : ByteArray) (e bad : Int) (r : List UInt8) (w : World) : Prop := ∃ m, JAt s m r ∧ JR base rb s m out H key e bad w
def JNo (base rb : Nat) (s : ByteArray) (b : Bad) (w : World) : Prop := ∃ (m k : Nat) (out : List Nd) (H : List Jh) (key : ByteArray), JAt s m b.1 ∧ JR base rb s k out H key b.2 (m : Int) w
section
variable {base rb n : Nat} {s key : ByteArray} {out : List Nd} {H : List Jh} {e bad : Int} {w w' : World} {r : List UInt8} {b : Bad}
theorem JOk.old (h : JOk base rb s out H key e bad r w) (o : Old w w') : JOk base rb s out H key e bad r w' := by
 obtain ⟨m, h1, h2⟩ := h
 exact ⟨m, h1, h2.old o⟩
theorem JNo.old (h : JNo base rb s b w) (o : Old w w') : JNo base rb s b w' := by
 obtain ⟨m, k, o1, o2, o3, h1, h2⟩ := h
 exact ⟨m, k, o1, o2, o3, h1, h2.old o⟩
end
def JWent (base rb : Nat) (s : ByteArray) (out : List Nd) (H : List Jh) (key : ByteArray) (e bad : Int) (W : Except Bad (List UInt8)) (y : Ending) (w' : World) : Prop :=
 match W with
 | .ok r => y = .returned (.bool true) ∧ JOk base rb s out H key e bad r w'
 | .error b => y = .returned (.bool false) ∧ JNo base rb s b w'
abbrev oneW (w : World) (x : UInt8) : World := w.alloc (.cells #[.int .u8 (x.toNat : Int)] 5)
theorem sl_one (w : World) (x : UInt8) : Sl (oneW w x) (.slice (some ⟨w.heap.size, 0, none⟩) 1 1) [x].length (byV [x]) := sl_bytes w [x] w.heap.size rfl (by simp)
set_option maxRecDepth 100000 in
set_option maxHeartbeats 1000000 in
theorem word_runB (base rb : Nat) (s : ByteArray) (n : Nat) (l : List UInt8) (out : List Nd) (H : List Jh) (key : ByteArray) (e bad : Int) (w : World) (h : JR base rb s n out H key e bad w) (ha : JAt s n l) (hs : s.size ≤ 1073741824)
 (x : ByteArray) (hx : x.size ≤ 100) (W : Except Bad (List UInt8)) (hW : wordV x.data.toList l = W) :
 Calls Tryz.prog 103 #[.pointer (some ⟨rb, 0, none⟩), .string x] w fun y w' => JWent base rb s out H key e bad W y w' ∧ Bel base rb w w' := by
 have HJ := hide h
 have HA := hide ha
 have HW := hide (show wordV (x.data.toList.drop 0) l = W from hW)
 have hbw := hide (show base ≤ w.heap.size from Nat.le_trans h.low (Nat.le_of_lt h.lt))
 clear h ha hW
 go_enter Tryz.func103, Tryz.ntmps103
 go_wp2_with fail
 go_loopw [8] (fun i wr => ∃ (k m : Nat) (q : List UInt8), i = .int .i64 k ∧ k ≤ x.size ∧ Hid (JR base rb s m out H key e bad wr) ∧ Hid (JAt s m q) ∧ Hid (wordV (x.data.toList.drop k) q = W) ∧ Hid (Bel base rb w wr)) (fun i _ => x.size - (intOf i).toNat)
 case atStart => exact ⟨0, n, l, rfl, by omega, HJ, HA, HW, hide (Bel.refl _ _ _)⟩
 case round =>
  obtain ⟨k, m, q, rfl, hk, HR, HQ, HS, HB⟩ := hrel
  by_cases hlt : k < x.size
  · obtain ⟨c, cs, hc⟩ : ∃ c cs, x.data.toList.drop k = c :: cs := by
     cases hd : x.data.toList.drop k with
     | nil =>
       have := congrArg List.length hd
       rw [List.length_drop, list_size] at this
       simp at this
       omega
     | cons c cs => exact ⟨c, cs, rfl⟩
    obtain ⟨b1, b2, b3⟩ := byte_at hc
    have bx : x[k] = c := by rw [get_at x b1, b2]
    have B3 := hide b3
    have HS2 := hide (show wordV (c :: cs) q = W by rw [← hc]; exact HS.out)
    have O1 := hide (Old.alloc (Old.refl wr) (.cells #[.int .u8 (c.toNat : Int)] 5))
    have JA := hide (HR.out.old O1.out)
    obtain ⟨B, hB⟩ : ∃ B, Hid (nowB [c] q = B) := ⟨_, hide rfl⟩
    have CN := hide (now_run base rb s m q out H key e bad (oneW wr c) JA.out HQ.out _ [c] (sl_one wr c) (by simp) B hB.out)
    have BN := hide (HB.out.trans (Bel.ofOld O1.out (Nat.le_trans hbw.out HB.out.size)))
    have BS := hide (show base ≤ (oneW wr c).heap.size from Nat.le_trans hbw.out BN.out.size)
    clear hc b2 b3
    go_wp2_with fail
    refine CN.out.mono ?_
    rintro y w2 ⟨rfl, o2⟩
    have J2 := hide (JA.out.old o2)
    have B2 := hide (BN.out.trans (Bel.ofOld o2 BS.out))
    clear o2
    obtain ⟨ov, hv, ⟨_, x1, _, _, _, _, _⟩, hf, _, _⟩ := J2.out.cells
    have f1 := hf 1
    clear hf
    cases B
    · have CF := hide (jfail_runB base rb s m out H key e bad w2 J2.out (m : Int) 70)
      have EW := hide (show W = .error (q, 70) by
       rw [← HS2.out]
       cases q with
       | nil => rfl
       | cons d r =>
         have hh := hB.out
         simp only [nowB, List.mem_singleton, decide_eq_false_iff_not] at hh
         simp only [wordV]
         exact if_neg hh)
      go_wp2_with fail
      refine CF.out.mono ?_
      rintro y w3 ⟨rfl, j3, o3⟩
      have J3 := hide j3
      have B3' := hide (B2.out.trans o3)
      clear j3 o3
      go_wp2_with fail
      go_ret
      refine ⟨?_, B3'.out⟩
      rw [EW.out]
      exact ⟨rfl, m, m, out, H, key, HQ.out, J3.out⟩
    · cases q with
      | nil => exact absurd hB.out (by simp [nowB])
      | cons d r =>
        have hd := hB.out
        simp only [nowB, List.mem_singleton, decide_eq_true_eq] at hd
        have EW := hide (show wordV (x.data.toList.drop (k + 1)) r = W by
         rw [B3.out, ← HS2.out]
         simp only [wordV]
         rw [if_pos hd])
        have HN := hide HQ.out.next
        have hmlt : m < s.size := (byte_at HQ.out.rest).1
        have J3 := hide (J2.out.setAt (m + 1) (z := (m : Int) + 1) (by simp))
        have B4 := hide (B2.out.trans (J2.out.keepB 1 (.int .i64 ((m : Int) + 1)) (by decide)))
        clear hd
        go_wp2_with fail
        go_roundw
        case rel => exact ⟨k + 1, m + 1, r, by go_num, by omega, J3, HN, EW, B4⟩
        case measure => simp [intOf]; omega
  · have EW := hide (show W = .ok q by
     rw [← HS.out, List.drop_of_length_le (by rw [list_size]; omega)]
     rfl)
    go_wp2_with fail
    go_ret
    refine ⟨?_, HB.out⟩
    rw [EW.out]
    exact ⟨rfl, m, HQ.out, HR.out⟩
theorem word_run (base rb : Nat) (s : ByteArray) (n : Nat) (l : List UInt8) (out : List Nd) (H : List Jh) (key : ByteArray) (e bad : Int) (w : World) (h : JR base rb s n out H key e bad w) (ha : JAt s n l) (hs : s.size ≤ 1073741824)
 (x : ByteArray) (hx : x.size ≤ 100) (W : Except Bad (List UInt8)) (hW : wordV x.data.toList l = W) :
 Calls Tryz.prog 103 #[.pointer (some ⟨rb, 0, none⟩), .string x] w fun y w' => JWent base rb s out H key e bad W y w' ∧ RowKit.Below base w w' :=
 (word_runB base rb s n l out H key e bad w h ha hs x hx W hW).mono fun _ _ k => ⟨k.1, k.2.low⟩
end Go.Proofs.YthlfljmfggmfdaaGreatDoor
namespace Go.Proofs.YthlfljmfggmfdaaGreatDoor
open Go.RowKit
def digsW (l : List UInt8) : Except Bad (List UInt8) := if digsOf l = [] then .error (l, 70) else .ok (digsEnd l)
theorem digsW_eq (l : List UInt8) : digs1 l = match digsW l with | .error b => .error b | .ok r => .ok (digsOf l, r) := by
 unfold digs1 digsW
 split <;> rfl
theorem isDig_no {c : UInt8} (h : isDig c = false) : c.toNat < 48 ∨ 57 < c.toNat := by
 unfold isDig at h
 simp only [Bool.and_eq_false_iff, decide_eq_false_iff_not] at h
 omega
theorem isDig_yes {c : UInt8} (h : isDig c = true) : 48 ≤ c.toNat ∧ c.toNat ≤ 57 := by
 unfold isDig at h
 simpa using h
theorem digsEnd_no {c : UInt8} {r : List UInt8} (h : isDig c = false) : digsEnd (c :: r) = c :: r := by simp [digsEnd, h]
theorem digsOf_no {c : UInt8} {r : List UInt8} (h : isDig c = false) : digsOf (c :: r) = [] := by simp [digsOf, h]
theorem digsEnd_yes {c : UInt8} {r : List UInt8} (h : isDig c = true) : digsEnd (c :: r) = digsEnd r := by simp [digsEnd, h]
theorem digsOf_yes {c : UInt8} {r : List UInt8} (h : isDig c = true) : digsOf (c :: r) ≠ [] := by simp [digsOf, h]
structure DAt (n m : Nat) (l q : List UInt8) : Prop where
 le : n ≤ m
 fin : digsEnd q = digsEnd l
 same : m = n → q = l
 more : n < m → digsOf l ≠ []
set_option maxRecDepth 100000 in
set_option maxHeartbeats 1000000 in
theorem digits_end (base rb : Nat) (s : ByteArray) (n m : Nat) (l q : List UInt8) (out : List Nd) (H : List Jh) (key : ByteArray) (e bad : Int) (wr : World) (HR : JR base rb s m out H key e bad wr) (HQ : JAt s m q) (HD : DAt n m l q) (he : digsEnd q = q) (hgt : n < m) :
 JWent base rb s out H key e bad (digsW l) (.returned (.bool true)) wr := by
 unfold digsW
 rw [if_neg (HD.more hgt), ← HD.fin, he]
 exact ⟨rfl, m, HQ, HR⟩
theorem digits_none (base rb : Nat) (s : ByteArray) (n m : Nat) (l q : List UInt8) (out : List Nd) (H : List Jh) (key : ByteArray) (e bad : Int) (wr : World) (HR : JR base rb s m out H key 70 (m : Int) wr) (HQ : JAt s m q) (HD : DAt n m l q) (hq : digsOf q = []) (hgt : ¬ n < m) :
 JWent base rb s out H key e bad (digsW l) (.returned (.bool false)) wr := by
 have hm : m = n := by have := HD.le; omega
 have hl := HD.same hm
 unfold digsW
 rw [← hl, if_pos hq]
 exact ⟨rfl, m, m, out, H, key, HQ, HR⟩
set_option maxRecDepth 100000 in
set_option maxHeartbeats 1000000 in
theorem digits_runB (base rb : Nat) (s : ByteArray) (n : Nat) (l : List UInt8) (out : List Nd) (H : List Jh) (key : ByteArray) (e bad : Int) (w : World) (h : JR base rb s n out H key e bad w) (ha : JAt s n l) (hs : s.size ≤ 1073741824) :
 Calls Tryz.prog 126 #[.pointer (some ⟨rb, 0, none⟩)] w fun y w' => JWent base rb s out H key e bad (digsW l) y w' ∧ Bel base rb w w' := by
 have HJ := hide h
 have HA := hide ha
 have hbw := hide (show base ≤ w.heap.size from Nat.le_trans h.low (Nat.le_of_lt h.lt))
 obtain ⟨ov0, hv0, ⟨_, x10, _, _, _, _, _⟩, _⟩ := h.cells
 have hn := HA.out.le
 clear h ha
 go_enter Tryz.func126, Tryz.ntmps126
 go_wp2_with fail
 clear x10
 go_loopw [] (fun wr => ∃ (m : Nat) (q : List UInt8), Hid (JR base rb s m out H key e bad wr) ∧ Hid (JAt s m q) ∧ Hid (DAt n m l q) ∧ Hid (Bel base rb w wr)) (fun wr => jLeft rb s wr)
 case atStart => exact ⟨n, l, HJ, HA, hide ⟨Nat.le_refl _, rfl, fun _ => rfl, fun h => absurd h (Nat.lt_irrefl _)⟩, hide (Bel.refl _ _ _)⟩
 case round =>
  obtain ⟨m, q, HR, HQ, HD, HB⟩ := hrel
  obtain ⟨ov, hv, ⟨x0, x1, _, _, _, _, _⟩, hf, _, _⟩ := HR.out.cells
  have f1 := hf 1
  have hm := HQ.out.le
  have LF := hide HR.out.left
  clear hf
  have y0 : ∀ p : Later wr, p.world.cell? ⟨rb, 0, none⟩ = some (.string s) := fun p => p.old.cell x0
  have y1 : ∀ p : Later wr, p.world.cell? ⟨rb, 1, none⟩ = some (.int .i64 (m : Int)) := fun p => p.old.cell x1
  have hnm := HD.out.le
  have END : digsOf q = [] → digsEnd q = q → Hid ((n < m → ∀ w2, Old wr w2 → JWent base rb s out H key e bad (digsW l) (.returned (.bool true)) w2) ∧ (¬ n < m → ∀ w2, JR base rb s m out H key 70 (m : Int) w2 → JWent base rb s out H key e bad (digsW l) (.returned (.bool false)) w2)) := fun h1 h2 => hide
   ⟨fun g w2 o2 => digits_end base rb s n m l q out H key e bad w2 (HR.out.old o2) HQ.out HD.out h2 g, fun g w2 j => digits_none base rb s n m l q out H key e bad w2 j HQ.out HD.out h1 g⟩
  have FAILS := hide (fun w2 (o2 : Old wr w2) => jfail_runB base rb s m out H key e bad w2 (HR.out.old o2) (m : Int) 70)
  cases q with
  | nil =>
    have hk : m = s.size := by have := HQ.out.len; simpa using this
    have hq : ¬ (m : Int) < (s.size : Int) := by omega
    have hqn : decide (m < s.size) = false := decide_eq_false (by omega)
    have EE := END rfl rfl
    clear hk END
    by_cases hgt : n < m
    · have hgi : (n : Int) < (m : Int) := by omega
      have hgd : decide (n < m) = true := decide_eq_true hgt
      go_wp2_with fail
      refine region_later (by kernel_rfl) (by kernel_rfl) ?_
      repeat (go_big_quiet_step (fail))
      refine wpQuiet_nil ?_
      rintro w2 ⟨⟨_, o2⟩, rfl⟩
      have z1 : w2.cell? ⟨rb, 1, none⟩ = some (.int .i64 (m : Int)) := o2.cell x1
      have O2 := hide o2
      have B2 := hide (show Bel base rb w w2 from HB.out.trans (Bel.ofOld o2 (Nat.le_trans hbw.out HB.out.size)))
      clear o2 y0 y1
      go_wp2_with fail
      go_ret
      exact ⟨EE.out.1 hgt w2 O2.out, B2.out⟩
    · have hgi : ¬ (n : Int) < (m : Int) := by omega
      have hgd : decide (n < m) = false := decide_eq_false hgt
      go_wp2_with fail
      refine region_later (by kernel_rfl) (by kernel_rfl) ?_
      repeat (go_big_quiet_step (fail))
      refine wpQuiet_nil ?_
      rintro w2 ⟨⟨_, o2⟩, rfl⟩
      have z1 : w2.cell? ⟨rb, 1, none⟩ = some (.int .i64 (m : Int)) := o2.cell x1
      have O2 := hide o2
      have B2 := hide (show Bel base rb w w2 from HB.out.trans (Bel.ofOld o2 (Nat.le_trans hbw.out HB.out.size)))
      clear o2 y0 y1
      go_wp2_with fail
      refine (FAILS.out w2 O2.out).mono ?_
      rintro y w3 ⟨rfl, j3, o3⟩
      have J3 := hide j3
      have B3 := hide (B2.out.trans o3)
      clear j3 o3
      go_wp2_with fail
      go_ret
      exact ⟨EE.out.2 hgt w3 J3.out, B3.out⟩
  | cons c r =>
    obtain ⟨b1, b2, b3⟩ := byte_at HQ.out.rest
    have bx : s[m] = c := by rw [get_at s b1, b2]
    have hq : (m : Int) < (s.size : Int) := by omega
    have hqn : decide (m < s.size) = true := decide_eq_true b1
    have HN := hide HQ.out.next
    clear b2 b3
    cases hdg : isDig c with
    | true =>
      obtain ⟨g1, g2⟩ := isDig_yes hdg
      have g1' : (48 : Int) ≤ (c.toNat : Int) := by omega
      have g2' : (c.toNat : Int) ≤ 57 := by omega
      have d1 : decide ((48 : Int) ≤ (c.toNat : Int)) = true := decide_eq_true g1'
      have d2 : decide ((c.toNat : Int) ≤ 57) = true := decide_eq_true g2'
      have J2 := hide (fun w2 (o2 : Old wr w2) => (HR.out.old o2).setAt (m + 1) (z := (m : Int) + 1) (by simp))
      have B2 := hide (fun w2 (o2 : Old wr w2) => (HB.out.trans (Bel.ofOld o2 (Nat.le_trans hbw.out HB.out.size))).trans ((HR.out.old o2).keepB 1 (.int .i64 ((m : Int) + 1)) (by decide)))
      have D2 := hide (show DAt n (m + 1) l r from ⟨by omega, by rw [← HD.out.fin, digsEnd_yes hdg], fun h => by omega, fun _ => by
       by_cases h : n < m
       · exact HD.out.more h
       · rw [← HD.out.same (by omega)]
         exact digsOf_yes hdg⟩)
      have ML := hide (fun w2 (j : JR base rb s (m + 1) out H key e bad w2) => show jLeft rb s w2 < jLeft rb s wr by rw [j.left, LF.out]; omega)
      clear END g1 g2 hdg
      go_wp2_with fail
      refine region_later (by kernel_rfl) (by kernel_rfl) ?_
      repeat (go_big_quiet_step (fail))
      refine wpQuiet_nil ?_
      rintro w2 ⟨⟨_, o2⟩, rfl⟩
      have z1 : w2.cell? ⟨rb, 1, none⟩ = some (.int .i64 (m : Int)) := o2.cell x1
      have zf : w2.frozen? ⟨rb, 1, none⟩ = false := ((HR.out.old o2).cells.choose_spec.choose_spec.2.1) 1
      have JJ := hide (J2.out w2 o2)
      have BB := hide (B2.out w2 o2)
      clear o2 y0 y1 J2 B2
      go_wp2_with fail
      go_roundw
      case rel => exact ⟨m + 1, r, JJ, HN, D2, BB⟩
      case measure => exact ML.out _ JJ.out
    | false =>
      have EE := END (digsOf_no hdg) (digsEnd_no hdg)
      have g3 := isDig_no hdg
      have two : Hid (c.toNat < 48) ∨ Hid (48 ≤ c.toNat ∧ 57 < c.toNat) := by
       rcases Nat.lt_or_ge c.toNat 48 with h | h
       · exact .inl (hide h)
       · exact .inr (hide ⟨h, by omega⟩)
      clear END hdg g3
      rcases two with hd | hd
      · have g1' : ¬ (48 : Int) ≤ (c.toNat : Int) := by have := hd.out; omega
        have d1 : decide ((48 : Int) ≤ (c.toNat : Int)) = false := decide_eq_false g1'
        by_cases hgt : n < m
        · have hgi : (n : Int) < (m : Int) := by omega
          have hgd : decide (n < m) = true := decide_eq_true hgt
          go_wp2_with fail
          refine region_later (by kernel_rfl) (by kernel_rfl) ?_
          repeat (go_big_quiet_step (fail))
          refine wpQuiet_nil ?_
          rintro w2 ⟨⟨_, o2⟩, rfl⟩
          have z1 : w2.cell? ⟨rb, 1, none⟩ = some (.int .i64 (m : Int)) := o2.cell x1
          have O2 := hide o2
          have B2 := hide (show Bel base rb w w2 from HB.out.trans (Bel.ofOld o2 (Nat.le_trans hbw.out HB.out.size)))
          clear o2 y0 y1
          go_wp2_with fail
          go_ret
          exact ⟨EE.out.1 hgt w2 O2.out, B2.out⟩
        · have hgi : ¬ (n : Int) < (m : Int) := by omega
          have hgd : decide (n < m) = false := decide_eq_false hgt
          go_wp2_with fail
          refine region_later (by kernel_rfl) (by kernel_rfl) ?_
          repeat (go_big_quiet_step (fail))
          refine wpQuiet_nil ?_
          rintro w2 ⟨⟨_, o2⟩, rfl⟩
          have z1 : w2.cell? ⟨rb, 1, none⟩ = some (.int .i64 (m : Int)) := o2.cell x1
          have O2 := hide o2
          have B2 := hide (show Bel base rb w w2 from HB.out.trans (Bel.ofOld o2 (Nat.le_trans hbw.out HB.out.size)))
          clear o2 y0 y1
          go_wp2_with fail
          refine (FAILS.out w2 O2.out).mono ?_
          rintro y w3 ⟨rfl, j3, o3⟩
          have J3 := hide j3
          have B3 := hide (B2.out.trans o3)
          clear j3 o3
          go_wp2_with fail
          go_ret
          exact ⟨EE.out.2 hgt w3 J3.out, B3.out⟩
      · have g1' : (48 : Int) ≤ (c.toNat : Int) := by have := hd.out; omega
        have g2' : ¬ (c.toNat : Int) ≤ 57 := by have := hd.out; omega
        have d1 : decide ((48 : Int) ≤ (c.toNat : Int)) = true := decide_eq_true g1'
        have d2 : decide ((c.toNat : Int) ≤ 57) = false := decide_eq_false g2'
        by_cases hgt : n < m
        · have hgi : (n : Int) < (m : Int) := by omega
          have hgd : decide (n < m) = true := decide_eq_true hgt
          go_wp2_with fail
          refine region_later (by kernel_rfl) (by kernel_rfl) ?_
          repeat (go_big_quiet_step (fail))
          refine wpQuiet_nil ?_
          rintro w2 ⟨⟨_, o2⟩, rfl⟩
          have z1 : w2.cell? ⟨rb, 1, none⟩ = some (.int .i64 (m : Int)) := o2.cell x1
          have O2 := hide o2
          have B2 := hide (show Bel base rb w w2 from HB.out.trans (Bel.ofOld o2 (Nat.le_trans hbw.out HB.out.size)))
          clear o2 y0 y1
          go_wp2_with fail
          go_ret
          exact ⟨EE.out.1 hgt w2 O2.out, B2.out⟩
        · have hgi : ¬ (n : Int) < (m : Int) := by omega
          have hgd : decide (n < m) = false := decide_eq_false hgt
          go_wp2_with fail
          refine region_later (by kernel_rfl) (by kernel_rfl) ?_
          repeat (go_big_quiet_step (fail))
          refine wpQuiet_nil ?_
          rintro w2 ⟨⟨_, o2⟩, rfl⟩
          have z1 : w2.cell? ⟨rb, 1, none⟩ = some (.int .i64 (m : Int)) := o2.cell x1
          have O2 := hide o2
          have B2 := hide (show Bel base rb w w2 from HB.out.trans (Bel.ofOld o2 (Nat.le_trans hbw.out HB.out.size)))
          clear o2 y0 y1
          go_wp2_with fail
          refine (FAILS.out w2 O2.out).mono ?_
          rintro y w3 ⟨rfl, j3, o3⟩
          have J3 := hide j3
          have B3 := hide (B2.out.trans o3)
          clear j3 o3
          go_wp2_with fail
          go_ret
          exact ⟨EE.out.2 hgt w3 J3.out, B3.out⟩
end Go.Proofs.YthlfljmfggmfdaaGreatDoor

/-! ###  -/
namespace Go.Proofs.YthlfljmfggmfdaaGreatDoor
def decS (a : Nat) (d : UInt8) : Nat := 10 * a + (d.toNat - 48)
theorem decS_eq (a : Nat) (d : UInt8) : decS a d = 10 * a + (d.toNat - 48) := rfl
def decOn (a : Nat) (ds : List UInt8) : Nat := ds.foldl decS a
theorem decOn_nil (a : Nat) : decOn a [] = a := List.foldl_nil
theorem decOn_cons (d : UInt8) (ds : List UInt8) (a : Nat) : decOn a (d :: ds) = decOn (decS a d) ds := List.foldl_cons ..
theorem decOn_le (ds : List UInt8) : ∀ a : Nat, a ≤ decOn a ds := by
 induction ds with
 | nil => intro a; rw [decOn_nil]; exact Nat.le_refl _
 | cons d ds ih =>
   intro a
   have h := ih (decS a d)
   rw [decOn_cons]
   rw [decS_eq] at h ⊢
   exact Nat.le_trans (Nat.le_trans (Nat.le_mul_of_pos_left a (by decide)) (Nat.le_add_right _ _)) h
theorem decV_on (ds : List UInt8) : decV ds = decOn 0 ds := rfl
theorem uintM (ds : List UInt8) : ∀ (a : Nat), a ≤ 18446744073709551615 → (∀ d ∈ ds, isDig d = true) → Lib.parseUintM 18446744073709551615 a ds = if decOn a ds ≤ 18446744073709551615 then .ok (decOn a ds) else .range := by
 induction ds with
 | nil =>
   intro a ha _
   rw [decOn_nil, if_pos ha]
   rfl
 | cons d ds ih =>
   intro a ha hd
   have h1 := hd d (List.mem_cons_self ..)
   have hd2 : ∀ x ∈ ds, isDig x = true := fun x hx => hd x (List.mem_cons_of_mem _ hx)
   unfold isDig at h1
   simp only [Bool.and_eq_true, decide_eq_true_eq] at h1
   have hle := decOn_le ds (decS a d)
   rw [decOn_cons]
   have hS := decS_eq a d
   obtain ⟨S, hS2⟩ : ∃ S, decS a d = S := ⟨_, rfl⟩
   rw [hS2] at hle hS ⊢
   simp only [Lib.parseUintM]
   rw [if_pos h1]
   by_cases h2 : 1844674407370955162 ≤ a
   · rw [if_pos h2, if_neg (by omega)]
   rw [if_neg h2]
   by_cases h3 : 18446744073709551615 < a * 10 + (d.toNat - 48)
   · rw [if_pos h3, if_neg (by omega)]
   have e : a * 10 + (d.toNat - 48) = S := by omega
   rw [if_neg h3, e]
   exact ih _ (by omega) hd2
theorem uintB {ds : List UInt8} (h0 : ds ≠ []) (hd : ∀ d ∈ ds, isDig d = true) : Lib.parseUintB 64 ds = if decV ds ≤ 18446744073709551615 then .ok (decV ds) else .range := by
 unfold Lib.parseUintB
 rw [if_neg h0, decV_on]
 exact uintM ds 0 (by omega) hd
theorem intB {neg : Bool} {ds : List UInt8} (h0 : ds ≠ []) (hd : ∀ d ∈ ds, isDig d = true) : Lib.parseIntB 64 ((if neg then [45] else []) ++ ds) = if -9223372036854775808 ≤ signed neg (decV ds) ∧ signed neg (decV ds) ≤ 9223372036854775807 then .ok (signed neg (decV ds)) else .range := by
 cases neg with
 | true =>
   have e : (if true = true then [45] else ([] : List UInt8)) ++ ds = 45 :: ds := rfl
   rw [e, Lib.parseIntB_minus, uintB h0 hd]
   simp only [signed, if_true]
   by_cases h1 : decV ds ≤ 18446744073709551615
   · rw [if_pos h1]
     simp only [Lib.signedC]
     by_cases h2 : decV ds ≤ 9223372036854775808
     · rw [if_neg (by omega), if_pos (by omega)]
     · rw [if_pos (by omega), if_neg (by omega)]
   · rw [if_neg h1, if_neg (by omega)]
     rfl
 | false =>
   cases ds with
   | nil => exact absurd rfl h0
   | cons d ds =>
     have h1 := hd d (List.mem_cons_self ..)
     unfold isDig at h1
     simp only [Bool.and_eq_true, decide_eq_true_eq] at h1
     have e : (if false = true then [45] else ([] : List UInt8)) ++ (d :: ds) = d :: ds := rfl
     rw [e, Lib.parseIntB_plain 64 d ds (by omega) (by omega), uintB h0 hd]
     simp only [signed, Bool.false_eq_true, if_false]
     obtain ⟨X, hX⟩ : ∃ X, decV (d :: ds) = X := ⟨_, rfl⟩
     rw [hX]
     by_cases h1 : X ≤ 18446744073709551615
     · rw [if_pos h1]
       simp only [Lib.signlessC]
       by_cases h2 : X < 9223372036854775808
       · rw [if_neg (by omega), if_pos (by omega)]
       · rw [if_pos (by omega), if_neg (by omega)]
     · rw [if_neg h1, if_neg (by omega)]
       rfl
theorem digsOf_all : ∀ (l : List UInt8), ∀ d ∈ digsOf l, isDig d = true
 | [], d, h => by simp [digsOf] at h
 | c :: r, d, h => by
   simp only [digsOf] at h
   split at h
   · rename_i hc
     rcases List.mem_cons.1 h with rfl | h
     · exact hc
     · exact digsOf_all r d h
   · simp at h
theorem digs_split : ∀ (l : List UInt8), l = digsOf l ++ digsEnd l
 | [] => rfl
 | c :: r => by
   simp only [digsOf, digsEnd]
   split
   · rw [List.cons_append, ← digs_split r]
   · rfl
theorem whole_is {l ds r : List UInt8} (h : wholeV l = .ok (ds, r)) : l = ds ++ r ∧ ds ≠ [] ∧ ∀ d ∈ ds, isDig d = true := by
 unfold wholeV at h
 split at h
 · rename_i r1 h1
   injection h with h; injection h with ha hb; subst ha hb
   cases l with
   | nil => cases h1
   | cons c l =>
     simp only [opt1] at h1
     split at h1
     · rename_i hc
       injection h1 with _ h1
       subst hc h1
       exact ⟨rfl, by simp, by intro d hd; simp only [List.mem_singleton] at hd; subst hd; decide⟩
     · cases h1
 · unfold digs1 at h
   split at h
   · cases h
   · rename_i hne
     injection h with h; injection h with ha hb; subst ha hb
     exact ⟨digs_split l, hne, digsOf_all l⟩
theorem sign_is (l : List UInt8) : l = (if (opt1 45 l).1 then [45] else []) ++ (opt1 45 l).2 := by
 cases l with
 | nil => rfl
 | cons c r =>
   simp only [opt1]
   split
   · rename_i h
     rw [h]
     rfl
   · rfl
theorem frac_no {l r : List UInt8} (h : fracV l = .ok (false, r)) : r = l := by
 unfold fracV at h
 split at h
 · split at h
   · cases h
   · injection h with h; injection h with h; cases h
 · injection h with h; injection h with _ h; exact h.symm
theorem exp_no {l r : List UInt8} (h : expV l = .ok (false, r)) : r = l := by
 unfold expV at h
 split at h
 · split at h
   · cases h
   · injection h with h; injection h with h; cases h
 · injection h with h; injection h with _ h; exact h.symm
theorem num_is {l ds l2 l3 l4 : List UInt8} (h1 : wholeV (opt1 45 l).2 = .ok (ds, l2)) (h2 : fracV l2 = .ok (false, l3)) (h3 : expV l3 = .ok (false, l4)) :
 l = ((if (opt1 45 l).1 then [45] else []) ++ ds) ++ l4 ∧ Lib.parseIntB 64 ((if (opt1 45 l).1 then [45] else []) ++ ds) = if -9223372036854775808 ≤ signed (opt1 45 l).1 (decV ds) ∧ signed (opt1 45 l).1 (decV ds) ≤ 9223372036854775807 then .ok (signed (opt1 45 l).1 (decV ds)) else .range := by
 obtain ⟨a, b, c⟩ := whole_is h1
 have e := exp_no h3
 have f := frac_no h2
 refine ⟨?_, intB b c⟩
 rw [List.append_assoc, e, f, ← a]
 exact sign_is l
end Go.Proofs.YthlfljmfggmfdaaGreatDoor
