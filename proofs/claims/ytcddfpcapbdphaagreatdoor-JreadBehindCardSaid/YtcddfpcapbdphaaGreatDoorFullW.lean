/- utf8.FullRuneInString; utf.Next. -/
import Derived.Test.YtcddfpcapbdphaaGreatDoorRdW
namespace Go.Proofs.YtcddfpcapbdphaaGreatDoor
open Go.RowKit

theorem firstT_lt (b : Nat) : Lib.firstT b < 256 := by
  rcases Lib.firstT_cases b with h | h | h | h | h | h | h | h | h <;> omega
theorem acc_lt (b : Nat) : Lib.accLo b < 256 ∧ Lib.accHi b < 256 := by
  unfold Lib.accLo Lib.accHi
  constructor <;> (repeat' split) <;> omega
set_option maxRecDepth 100000 in
set_option maxHeartbeats 1000000 in
theorem full_run (s : ByteArray) (l : List UInt8) (w : World) (hl : s.data.toList = l) (h0 : l ≠ []) (hs : s.size ≤ 1073741824) (hT : Tabs w) :
    Calls Tryz.prog 105 #[.string s] w fun e w' => e = .returned (.bool (fullB l)) ∧ Old w w' := by
  subst hl
  obtain ⟨n, hn⟩ : ∃ n, s.size = n := ⟨_, rfl⟩
  have hn0 : 0 < n := by
    rcases Nat.eq_zero_or_pos n with h | h
    · exact absurd (List.eq_nil_of_length_eq_zero (by simpa [hn] using h)) h0
    · exact h
  have hlen : s.data.toList.length = n := by simpa using hn
  obtain ⟨a, ha⟩ : ∃ a : UInt8, Hid (s.get! 0 = a) := ⟨_, hide rfl⟩
  obtain ⟨b, hb⟩ : ∃ a : UInt8, Hid (s.get! 1 = a) := ⟨_, hide rfl⟩
  obtain ⟨c, hc⟩ : ∃ a : UInt8, Hid (s.get! 2 = a) := ⟨_, hide rfl⟩
  have gd : ∀ i, i < s.size → s.data.toList.getD i 0 = s.get! i := by
    intro i hi
    have hi' : i < s.data.toList.length := by simpa using hi
    rw [List.getD_eq_getElem?_getD, List.getElem?_eq_getElem hi', Option.getD_some, ← get_at s hi]
    rfl
  have hn1 : 1 ≤ s.size := by omega
  have s0 : s[0]'hn1 = a := by rw [get_at s hn1]; exact ha.out
  have FB : fullB s.data.toList = fullN n a.toNat b.toNat c.toNat := by
    unfold fullB
    rw [hlen, gd 0 (by omega), ha.out]
    by_cases h1 : 1 < n
    · rw [gd 1 (by omega), hb.out]
      by_cases h2 : 2 < n
      · rw [gd 2 (by omega), hc.out]
      · unfold fullN
        simp [h2]
    · unfold fullN
      have h2 : ¬ 2 < n := by omega
      simp [h1, h2]
  obtain ⟨x, hx⟩ : ∃ x, Hid (Lib.firstT a.toNat = x) := ⟨_, hide rfl⟩
  obtain ⟨sz, hsz⟩ : ∃ k, Hid (x % 8 = k) := ⟨_, hide rfl⟩
  obtain ⟨k, hk⟩ : ∃ k, Hid (x / 16 = k) := ⟨_, hide rfl⟩
  obtain ⟨lo, hlo⟩ : ∃ lo, Hid (Lib.accLo k = lo) := ⟨_, hide rfl⟩
  obtain ⟨hi, hhi⟩ : ∃ hi, Hid (Lib.accHi k = hi) := ⟨_, hide rfl⟩
  have hx256 : x < 256 := by rw [← hx.out]; exact firstT_lt _
  have ha256 := a.toNat_lt
  have hk16 : k < 16 := by have := hk.out; omega
  have hsz8 : sz < 8 := by have := hsz.out; omega
  have hlo256 : lo < 256 := by rw [← hlo.out]; exact (acc_lt _).1
  have hhi256 : hi < 256 := by rw [← hhi.out]; exact (acc_lt _).2
  have c0 := hT.1 a.toNat (by omega)
  have c1 := (hT.2 k (by omega)).1
  have c2 := (hT.2 k (by omega)).2
  rw [hx.out] at c0
  replace c0 : w.cell? ⟨1, a.toNat, none⟩ = some (.int .u8 (x : Int)) := c0
  rw [hlo.out, Nat.mul_comm] at c1
  rw [hhi.out, Nat.mul_comm] at c2
  replace c1 : w.cell? ⟨2, k * 2, none⟩ = some (.int .u8 (lo : Int)) := c1
  replace c2 : w.cell? ⟨2, k * 2 + 1, none⟩ = some (.int .u8 (hi : Int)) := c2
  have FN : fullN n a.toNat b.toNat c.toNat = if sz ≤ n then true else if 1 < n ∧ (b.toNat < lo ∨ hi < b.toNat) then true else decide (2 < n ∧ (c.toNat < 128 ∨ 191 < c.toNat)) := by
    unfold fullN
    rw [hx.out, hsz.out, hk.out, hlo.out, hhi.out]
  rw [FB, FN]
  have q1 : bits BinOp.and IntKind.u8 (x : Int) 7 = (sz : Int) := by
    have h := bits_mask .u8 8 (by decide) wraps_u8 3 (by decide) (x : Int) (by omega) (by omega)
    have e := hsz.out
    have e2 : (2 : Int) ^ 3 - 1 = 7 := rfl
    rw [e2] at h
    rw [h]
    omega
  have q2 : (x : Int) / 16 = (k : Int) := by have := hk.out; omega
  have s1 : ∀ h : 1 < s.size, s[1] = b := fun h => by rw [get_at s h]; exact hb.out
  have s2 : ∀ h : 2 < s.size, s[2] = c := fun h => by rw [get_at s h]; exact hc.out
  have lb := b.toNat_lt
  have lc := c.toNat_lt
  have OA := hide (Old.alloc (Old.refl w) (.cells #[.int .u8 lo, .int .u8 hi] 157))
  clear FB FN gd hT hlen h0
  subst hn
  have g0 : ¬ ((s.size : Int) = 0) := by omega
  have g0' : ((s.size : Int) == 0) = false := beq_eq_false_iff_ne.2 g0
  by_cases h1 : sz ≤ s.size
  · rw [if_pos h1]
    have h1' : (sz : Int) ≤ (s.size : Int) := by omega
    go_enter Tryz.func105, Tryz.ntmps105
    go_wp2_with fail
    go_ret
    exact ⟨rfl, Old.refl _⟩
  · rw [if_neg h1]
    have h1' : ¬ (sz : Int) ≤ (s.size : Int) := by omega
    by_cases h2 : 1 < s.size
    · have h2' : (1 : Int) < (s.size : Int) := by omega
      have e1 := s1 h2
      by_cases h3 : b.toNat < lo
      · rw [if_pos ⟨h2, .inl h3⟩]
        have h3' : (b.toNat : Int) < (lo : Int) := by omega
        clear s1 s2
        go_enter Tryz.func105, Tryz.ntmps105
        go_wp2_with fail
        go_quiet (fail)
        go_wp2_with fail
        go_ret
        exact ⟨rfl, OA.out.drewN _⟩
      · have h3' : ¬ (b.toNat : Int) < (lo : Int) := by omega
        by_cases h4 : hi < b.toNat
        · rw [if_pos ⟨h2, .inr h4⟩]
          have h4' : (hi : Int) < (b.toNat : Int) := by omega
          clear s1 s2
          go_enter Tryz.func105, Tryz.ntmps105
          go_wp2_with fail
          go_quiet (fail)
          go_wp2_with fail
          go_ret
          exact ⟨rfl, OA.out.drewN _⟩
        · have h4' : ¬ (hi : Int) < (b.toNat : Int) := by omega
          rw [if_neg (by rintro ⟨_, h | h⟩; exact h3 h; exact h4 h)]
          by_cases h5 : 2 < s.size
          · have h5' : (2 : Int) < (s.size : Int) := by omega
            have e2 := s2 h5
            by_cases h6 : c.toNat < 128
            · rw [decide_eq_true (show 2 < s.size ∧ (c.toNat < 128 ∨ 191 < c.toNat) from ⟨h5, .inl h6⟩)]
              have h6' : (c.toNat : Int) < 128 := by omega
              clear s1 s2
              go_enter Tryz.func105, Tryz.ntmps105
              go_wp2_with fail
              go_quiet (fail)
              go_wp2_with fail
              go_ret
              exact ⟨rfl, OA.out.drewN _⟩
            · have h6' : ¬ (c.toNat : Int) < 128 := by omega
              by_cases h7 : 191 < c.toNat
              · rw [decide_eq_true (show 2 < s.size ∧ (c.toNat < 128 ∨ 191 < c.toNat) from ⟨h5, .inr h7⟩)]
                have h7' : (191 : Int) < (c.toNat : Int) := by omega
                clear s1 s2
                go_enter Tryz.func105, Tryz.ntmps105
                go_wp2_with fail
                go_quiet (fail)
                go_wp2_with fail
                go_ret
                exact ⟨rfl, OA.out.drewN _⟩
              · rw [decide_eq_false (show ¬ (2 < s.size ∧ (c.toNat < 128 ∨ 191 < c.toNat)) by omega)]
                have h7' : ¬ (191 : Int) < (c.toNat : Int) := by omega
                clear s1 s2
                go_enter Tryz.func105, Tryz.ntmps105
                go_wp2_with fail
                go_quiet (fail)
                go_wp2_with fail
                go_ret
                exact ⟨rfl, OA.out.drewN _⟩
          · have h5' : ¬ (2 : Int) < (s.size : Int) := by omega
            rw [decide_eq_false (show ¬ (2 < s.size ∧ (c.toNat < 128 ∨ 191 < c.toNat)) by omega)]
            clear s1 s2
            go_enter Tryz.func105, Tryz.ntmps105
            go_wp2_with fail
            go_quiet (fail)
            go_wp2_with fail
            go_ret
            exact ⟨rfl, OA.out.drewN _⟩
    · have h2' : ¬ (1 : Int) < (s.size : Int) := by omega
      have h2d : decide ((1 : Int) < (s.size : Int)) = false := decide_eq_false h2'
      have h5' : ¬ (2 : Int) < (s.size : Int) := by omega
      rw [if_neg (fun h => h2 h.1), decide_eq_false (show ¬ (2 < s.size ∧ (c.toNat < 128 ∨ 191 < c.toNat)) by omega)]
      clear s1 s2
      go_enter Tryz.func105, Tryz.ntmps105
      go_wp2_with fail
      go_quiet (fail)
      go_wp2_with fail
      go_ret
      exact ⟨rfl, OA.out.drewN _⟩
/-- the first rune -/
theorem unext_run (s : ByteArray) (l : List UInt8) (w : World) (hl : s.data.toList = l) (h0 : l ≠ []) (hT : Tabs w) :
    Calls Tryz.prog 104 #[.string s] w fun e w' => (∃ r : Nat, e = .returned (.tuple #[.int .i32 r, .int .i64 (runeN l), .bool (decide (runeN l ≠ 0))])) ∧ Old w w' := by
  subst hl
  have hs : s.size ≠ 0 := fun h => h0 (List.eq_nil_of_length_eq_zero (by simpa using h))
  have hd : Lib.decodeGo s = Utf8.decode s 0 := by unfold Lib.decodeGo; rw [if_neg hs]
  have hb : bT s.data.toList = s := bT_of s
  have CD := Tryz.utf8_DecodeRuneInString s w hT
  rw [hd] at CD
  have hp := decode_pos s
  obtain ⟨r, hr⟩ : ∃ r, Hid ((Utf8.decode s 0).1 = r) := ⟨_, hide rfl⟩
  obtain ⟨n, hn⟩ : ∃ r, Hid ((Utf8.decode s 0).2 = r) := ⟨_, hide rfl⟩
  have RN : runeN s.data.toList = if r = 65533 ∧ n = 1 then 0 else n := by
    unfold runeN
    rw [hb]
    have e : Utf8.decode s 0 = (r, n) := by rw [← hr.out, ← hn.out]
    rw [e]
    by_cases h : r = 65533 ∧ n = 1
    · rw [if_pos h, if_pos (by rw [h.1, h.2])]
    · rw [if_neg h, if_neg (fun e => by injection e with e1 e2; exact h ⟨e1, e2⟩)]
  have RN := hide RN
  rw [hr.out, hn.out] at CD
  rw [hn.out] at hp
  have CD := hide CD
  clear hd hb hs h0
  by_cases h1 : r = 65533
  · have h1' : ((r : Int) == 65533) = true := by simp [h1]
    by_cases h2 : n < 2
    · have h2' : (n : Int) < 2 := by omega
      have EZ := hide (show runeN s.data.toList = 0 by rw [RN.out, if_pos ⟨h1, by omega⟩])
      clear h1
      go_enter Tryz.func104, Tryz.ntmps104
      go_wp2_with fail
      refine CD.out.mono ?_
      rintro e w1 ⟨rfl, o1⟩
      have O1 := hide o1
      clear o1
      go_wp2_with fail
      go_ret3
      exact ⟨⟨0, by rw [EZ.out]; rfl⟩, O1.out⟩
    · have h2' : ¬ (n : Int) < 2 := by omega
      have EZ := hide (show runeN s.data.toList = n by rw [RN.out, if_neg (by omega)])
      have EB := hide (show decide (n ≠ 0) = true by simp; omega)
      clear h1
      go_enter Tryz.func104, Tryz.ntmps104
      go_wp2_with fail
      refine CD.out.mono ?_
      rintro e w1 ⟨rfl, o1⟩
      have O1 := hide o1
      clear o1
      go_wp2_with fail
      go_ret3
      exact ⟨⟨r, by rw [EZ.out, EB.out]; rfl⟩, O1.out⟩
  · have h1' : ((r : Int) == 65533) = false := by simp; omega
    have EZ := hide (show runeN s.data.toList = n by rw [RN.out, if_neg (by omega)])
    have EB := hide (show decide (n ≠ 0) = true by simp; omega)
    clear h1
    go_enter Tryz.func104, Tryz.ntmps104
    go_wp2_with fail
    refine CD.out.mono ?_
    rintro e w1 ⟨rfl, o1⟩
    have O1 := hide o1
    clear o1
    go_wp2_with fail
    go_ret3
    exact ⟨⟨r, by rw [EZ.out, EB.out]; rfl⟩, O1.out⟩
end Go.Proofs.YtcddfpcapbdphaaGreatDoor

