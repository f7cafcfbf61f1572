/- The document's Next. -/
import Derived.Test.YtkefhhnbkhijgaaDoorRput
import Derived.Test.YtkefhhnbkhijgaaDoorNode
namespace Go.Proofs.YtkefhhnbkhijgaaDoor
open Go.RowKit

def numAt (s : ByteArray) (n : Nat) : Nat := numTo (s.extract 0 n) n
/-- do the first n bytes make a rune? -/
def hit (s : ByteArray) (n : Nat) : Bool := decide (n ≤ s.size) && (scalarB (numAt s n) && decide (strOfNums (putL (numAt s n)) = s.extract 0 n))
def nextN (s : ByteArray) : Nat := if hit s 1 then 1 else if hit s 2 then 2 else if hit s 3 then 3 else if hit s 4 then 4 else 0
def nextVal (s : ByteArray) : Value := if nextN s = 0 then .tuple #[.int .i32 0, .int .i64 0, .bool false] else .tuple #[.int .i32 (numAt s (nextN s)), .int .i64 (nextN s), .bool true]
theorem hit_at {s : ByteArray} {n : Nat} (h1 : 1 ≤ n) (h4 : n ≤ 4) (hn : ∀ m, 1 ≤ m → m < n → hit s m = false) (h : hit s n = true) : nextN s = n := by
  unfold nextN
  rcases (show n = 1 ∨ n = 2 ∨ n = 3 ∨ n = 4 by omega) with rfl | rfl | rfl | rfl
  · rw [h]; rfl
  · rw [hn 1 (by omega) (by omega), h]; rfl
  · rw [hn 1 (by omega) (by omega), hn 2 (by omega) (by omega), h]; rfl
  · rw [hn 1 (by omega) (by omega), hn 2 (by omega) (by omega), hn 3 (by omega) (by omega), h]; rfl
theorem hit_none {s : ByteArray} (hn : ∀ m, 1 ≤ m → m ≤ 4 → hit s m = false) : nextN s = 0 := by
  unfold nextN
  rw [hn 1 (by omega) (by omega), hn 2 (by omega) (by omega), hn 3 (by omega) (by omega), hn 4 (by omega) (by omega)]
  rfl
theorem ext_size (s : ByteArray) {n : Nat} (h : n ≤ s.size) : (s.extract 0 n).size = n := by simp [ByteArray.size_extract]; omega

set_option maxRecDepth 100000 in
set_option maxHeartbeats 1000000 in
theorem next_run (s : ByteArray) (w : World) : Calls Tryd.prog 66 #[.string s] w fun e w' => e = .returned (nextVal s) ∧ Old w w' := by
  go_enter Tryd.func66, Tryd.ntmps66
  go_wp2_with fail
  go_loopw [5] (fun i wr => ∃ n : Nat, i = .int .i64 n ∧ 1 ≤ n ∧ n ≤ 5 ∧ Hid (∀ m, 1 ≤ m → m < n → hit s m = false) ∧ Hid (Old w wr)) (fun i _ => 5 - (intOf i).toNat)
  case atStart => exact ⟨1, rfl, by omega, by omega, hide (by intro m h1 h2; omega), hide (Old.refl _)⟩
  case round =>
    obtain ⟨n, rfl, hn1, hn5, HN, HO⟩ := hrel
    by_cases h4 : n ≤ 4
    · have h4' : decide ((n : Int) ≤ 4) = true := decide_eq_true (by omega)
      by_cases hsz : n ≤ s.size
      · have hsz' : decide ((n : Int) ≤ (s.size : Int)) = true := decide_eq_true (by omega)
        have hex := ext_size s hsz
        obtain ⟨r, hr⟩ : ∃ r, Hid (numAt s n = r) := ⟨_, hide rfl⟩
        have CN := hide (show Calls Tryd.prog 75 #[.string (s.extract 0 n)] wr fun e w' => e = .returned (.int .i32 r) ∧ Old wr w' from by
          have := number_run (s.extract 0 n) wr (by omega) (by omega)
          rw [hex] at this
          unfold numAt at hr
          rwa [hr.out] at this)
        have hr2 : r < 2097152 := by
          have := numTo_small (s.extract 0 n) (by omega) (k := n) (by omega)
          unfold numAt at hr
          rwa [hr.out] at this
        have CP := hide (fun w' => rput_run r w' (by omega))
        have NEXT := hide (show hit s n = false → ∀ m, 1 ≤ m → m < n + 1 → hit s m = false from fun h m h1 h2 => by
          rcases Nat.lt_or_ge m n with h3 | h3
          · exact HN.out m h1 h3
          · have : m = n := by omega
            rw [this]; exact h)
        have HHIT := hide (show hit s n = (scalarB r && decide (strOfNums (putL r) = s.extract 0 n)) by unfold hit; rw [decide_eq_true hsz, hr.out]; rfl)
        clear hex
        cases hsc : scalarB r
        · have HF := hide (NEXT.out (by rw [HHIT.out, hsc]; rfl))
          unfold putVal at CP
          rw [hsc] at CP
          simp only [Bool.false_eq_true, if_false] at CP
          clear hsc
          go_wp2_with fail
          refine CN.out.mono ?_
          rintro e w1 ⟨rfl, o1⟩
          go_wp2_with fail
          refine (CP.out _).mono ?_
          rintro e w2 ⟨rfl, o2⟩
          go_wp2_with fail
          go_roundw
          case rel => exact ⟨n + 1, by go_num, by omega, by omega, HF, hide (Old.trans HO.out (Old.trans o1 o2))⟩
          case measure => simp [intOf]; omega
        · unfold putVal at CP
          rw [hsc] at CP
          simp only [if_true] at CP
          rw [hsc] at HHIT
          clear hsc
          obtain ⟨b, hb⟩ : ∃ b, Hid (strOfNums (putL r) = b) := ⟨_, hide rfl⟩
          rw [hb.out] at CP HHIT
          by_cases he : b = s.extract 0 n
          · subst he
            have HT := hide (hit_at hn1 h4 HN.out (by rw [HHIT.out]; simp))
            go_wp2_with fail
            refine CN.out.mono ?_
            rintro e w1 ⟨rfl, o1⟩
            go_wp2_with fail
            refine (CP.out _).mono ?_
            rintro e w2 ⟨rfl, o2⟩
            have O2 := hide (Old.trans HO.out (Old.trans o1 o2))
            clear o1 o2
            go_wp2_with fail
            go_ret3
            exact ⟨by unfold nextVal; rw [HT.out, if_neg (by omega), hr.out]; rfl, O2.out⟩
          · have he1 : ¬ b.toList = (s.extract 0 n).toList := fun h => he (bytes_ext h)
            have he2 : (b.toList == (s.extract 0 n).toList) = false := beq_eq_false_iff_ne.2 he1
            have HF := hide (NEXT.out (by rw [HHIT.out]; simp [he]))
            clear he
            go_wp2_with fail
            refine CN.out.mono ?_
            rintro e w1 ⟨rfl, o1⟩
            go_wp2_with fail
            refine (CP.out _).mono ?_
            rintro e w2 ⟨rfl, o2⟩
            have O2 := hide (Old.trans HO.out (Old.trans o1 o2))
            clear o1 o2
            go_wp2_with fail
            go_roundw
            case rel => exact ⟨n + 1, by go_num, by omega, by omega, HF, O2⟩
            case measure => simp [intOf]; omega
      · have hsz' : decide ((n : Int) ≤ (s.size : Int)) = false := decide_eq_false (by omega)
        have FIN := hide (hit_none (s := s) fun m h1 h2 => by
          rcases Nat.lt_or_ge m n with h3 | h3
          · exact HN.out m h1 h3
          · unfold hit; rw [decide_eq_false (by omega)]; rfl)
        go_wp2_with fail
        go_ret3
        exact ⟨by unfold nextVal; rw [FIN.out]; rfl, HO.out⟩
    · have h4' : decide ((n : Int) ≤ 4) = false := decide_eq_false (by omega)
      have FIN := hide (hit_none (s := s) fun m h1 h2 => HN.out m h1 (by omega))
      go_wp2_with fail
      go_ret3
      exact ⟨by unfold nextVal; rw [FIN.out]; rfl, HO.out⟩

theorem hit_bd {s : ByteArray} {n : Nat} (h : hit s n = true) : n ≤ s.size := by
  unfold hit at h
  simp at h
  exact h.1
theorem nextN_bd (s : ByteArray) : nextN s ≤ s.size := by
  unfold nextN
  split
  · exact hit_bd (by assumption)
  · split
    · exact hit_bd (by assumption)
    · split
      · exact hit_bd (by assumption)
      · split
        · exact hit_bd (by assumption)
        · omega
/-- the document's Valid, by steps -/
def validN : Nat → ByteArray → Bool
  | 0, _ => true
  | k + 1, s => if s.size = 0 then true else if nextN s = 0 then false else validN k (s.extract (nextN s) s.size)
def validR (s : ByteArray) : Bool := validN s.size s
theorem ext_rest (s : ByteArray) (n : Nat) : (s.extract n s.size).size = s.size - n := by simp [ByteArray.size_extract]
theorem validN_more : ∀ (k m : Nat) (s : ByteArray), s.size ≤ k → s.size ≤ m → validN k s = validN m s
  | 0, 0, _, _, _ => rfl
  | 0, m + 1, s, h, _ => by rw [validN, validN, if_pos (by omega)]
  | k + 1, 0, s, _, h => by rw [validN, validN, if_pos (by omega)]
  | k + 1, m + 1, s, h1, h2 => by
    rw [validN, validN]
    split
    · rfl
    · split
      · rfl
      · have := ext_rest s (nextN s)
        exact validN_more k m _ (by omega) (by omega)
theorem validR_step {s : ByteArray} (h0 : s.size ≠ 0) (h1 : nextN s ≠ 0) : validR s = validR (s.extract (nextN s) s.size) := by
  unfold validR
  obtain ⟨k, hk⟩ : ∃ k, s.size = k + 1 := ⟨s.size - 1, by omega⟩
  have := ext_rest s (nextN s)
  rw [hk, validN, if_neg (by omega), if_neg h1, ← hk]
  exact validN_more _ _ _ (by omega) (Nat.le_refl _)
theorem validR_none {s : ByteArray} (h0 : s.size = 0) : validR s = true := by unfold validR; rw [h0]; rfl
theorem validR_bad {s : ByteArray} (h0 : s.size ≠ 0) (h1 : nextN s = 0) : validR s = false := by
  unfold validR
  obtain ⟨k, hk⟩ : ∃ k, s.size = k + 1 := ⟨s.size - 1, by omega⟩
  rw [hk, validN, if_neg (by omega), if_pos h1]
theorem nextN_four (s : ByteArray) : nextN s ≤ 4 := by
  unfold nextN
  split <;> (try split) <;> (try split) <;> (try split) <;> omega

set_option maxRecDepth 100000 in
set_option maxHeartbeats 400000 in
theorem ref_Valid (s : ByteArray) (w : World) (hs : s.size ≤ 9223372036854775807) : Calls Tryd.prog 49 #[.string s] w fun e w' => e = .returned (.bool (validR s)) ∧ Old w w' := by
  obtain ⟨ANS, hANS⟩ : ∃ A, Hid (validR s = A) := ⟨_, hide rfl⟩
  rw [hANS.out]
  go_enter Tryd.func49, Tryd.ntmps49
  go_wp2_with fail
  go_loopw [0] (fun v wr => ∃ t : ByteArray, v = .string t ∧ t.size ≤ 9223372036854775807 ∧ Hid (validR t = ANS) ∧ Hid (Old w wr)) (fun v _ => match v with | .string t => t.size | _ => 0)
  case atStart => exact ⟨s, rfl, hs, hANS, hide (Old.refl _)⟩
  case round =>
    clear hs hANS
    obtain ⟨t, rfl, hts, HV, HO⟩ := hrel
    have CN := hide (next_run t wr)
    by_cases h0 : t.size = 0
    · have FIN := hide (show true = ANS by rw [← HV.out, validR_none h0])
      have h0' : ¬ (0 : Int) < (t.size : Int) := by omega
      clear h0
      go_wp2_with fail
      go_ret
      exact ⟨ret_bool FIN.out, HO.out⟩
    · have h0' : (0 : Int) < (t.size : Int) := by omega
      have hbd := nextN_bd t
      have hb4 := nextN_four t
      by_cases h1 : nextN t = 0
      · have FIN := hide (show false = ANS by rw [← HV.out, validR_bad h0 h1])
        unfold nextVal at CN
        rw [if_pos h1] at CN
        clear h0 h1
        go_wp2_with fail
        refine CN.out.mono ?_
        rintro e w1 ⟨rfl, o1⟩
        go_wp2_with fail
        go_ret
        exact ⟨ret_bool FIN.out, Old.trans HO.out o1⟩
      · have HST := hide (validR_step h0 h1)
        unfold nextVal at CN
        rw [if_neg h1] at CN
        have hpos : 1 ≤ nextN t := by omega
        obtain ⟨n, hn⟩ : ∃ n, Hid (nextN t = n) := ⟨_, hide rfl⟩
        obtain ⟨r, hr⟩ : ∃ r, Hid (numAt t (nextN t) = r) := ⟨_, hide rfl⟩
        rw [hr.out, hn.out] at CN
        rw [hn.out] at HST hbd hb4 hpos
        have hrest := ext_rest t n
        have HRS := hide hrest
        clear h0 h1 hrest
        go_wp2_with fail
        refine CN.out.mono ?_
        rintro e w1 ⟨rfl, o1⟩
        have O1 := hide (Old.trans HO.out o1)
        clear o1
        go_wp2_with fail
        go_roundw
        case rel => exact ⟨_, rfl, by rw [HRS.out]; omega, hide (by rw [← HST.out, HV.out]), O1⟩
        case measure =>
          show (t.extract n t.size).size < t.size
          rw [HRS.out]
          omega
end Go.Proofs.YtkefhhnbkhijgaaDoor
