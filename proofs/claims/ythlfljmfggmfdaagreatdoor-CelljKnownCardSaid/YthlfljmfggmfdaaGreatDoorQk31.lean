/-  -/
import Derived.Test.YthlfljmfggmfdaaGreatDoorQk30
import Derived.Test.YthlfljmfggmfdaaGreatDoorQk13
/-! ###  -/
namespace Go.Proofs.YthlfljmfggmfdaaGreatDoor
open Go.RowKit
theorem firstT_lt (b : Nat) : Lib.firstT b < 256 := by
 rcases Lib.firstT_cases b with h | h | h | h | h | h | h | h | h <;> omega
theorem acc_lt (b : Nat) : Lib.accLo b < 256 ∧ Lib.accHi b < 256 := by
 unfold Lib.accLo Lib.accHi
 constructor <;> (repeat' split) <;> omega
set_option maxRecDepth 100000 in
set_option maxHeartbeats 1000000 in
theorem full_run (s : ByteArray) (l : List UInt8) (w : World) (hl : s.data.toList = l) (h0 : l ≠ []) (hs : s.size ≤ 1073741824) (hT : Tabs w) :
 Calls Tryz.prog 205 #[.string s] w fun e w' => e = .returned (.bool (fullB l)) ∧ Old w w' := by
 subst hl
 obtain ⟨n, hn⟩ : ∃ n, s.size = n := ⟨_, rfl⟩
 have hn0 : 0 < n := by
  rcases Nat.eq_zero_or_pos n with h | h
  · exact absurd (List.eq_nil_of_length_eq_zero (by simpa [hn] using h)) h0
  · exact h
 have hlen : s.data.toList.length = n := by simpa using hn
 obtain ⟨a, ha⟩ : ∃ a : UInt8, Hid (s.get! 0 = a) := ⟨_, hide rfl⟩
 obtain ⟨b, hb⟩ : ∃ a : UInt8, Hid (s.get! 1 = a) := ⟨_, hide rfl⟩
 obtain ⟨c, hc⟩ : ∃ a : UInt8, Hid (s.get! 2 = a) := ⟨_, hide rfl⟩
 have gd : ∀ i, i < s.size → s.data.toList.getD i 0 = s.get! i := by
  intro i hi
  have hi' : i < s.data.toList.length := by simpa using hi
  rw [List.getD_eq_getElem?_getD, List.getElem?_eq_getElem hi', Option.getD_some, ← get_at s hi]
  rfl
 have hn1 : 1 ≤ s.size := by omega
 have s0 : s[0]'hn1 = a := by rw [get_at s hn1]; exact ha.out
 have FB : fullB s.data.toList = fullN n a.toNat b.toNat c.toNat := by
  unfold fullB
  rw [hlen, gd 0 (by omega), ha.out]
  by_cases h1 : 1 < n
  · rw [gd 1 (by omega), hb.out]
    by_cases h2 : 2 < n
    · rw [gd 2 (by omega), hc.out]
    · unfold fullN
      simp [h2]
  · unfold fullN
    have h2 : ¬ 2 < n := by omega
    simp [h1, h2]
 obtain ⟨x, hx⟩ : ∃ x, Hid (Lib.firstT a.toNat = x) := ⟨_, hide rfl⟩
 obtain ⟨sz, hsz⟩ : ∃ k, Hid (x % 8 = k) := ⟨_, hide rfl⟩
 obtain ⟨k, hk⟩ : ∃ k, Hid (x / 16 = k) := ⟨_, hide rfl⟩
 obtain ⟨lo, hlo⟩ : ∃ lo, Hid (Lib.accLo k = lo) := ⟨_, hide rfl⟩
 obtain ⟨hi, hhi⟩ : ∃ hi, Hid (Lib.accHi k = hi) := ⟨_, hide rfl⟩
 have hx256 : x < 256 := by rw [← hx.out]; exact firstT_lt _
 have ha256 := a.toNat_lt
 have hk16 : k < 16 := by have := hk.out; omega
 have hsz8 : sz < 8 := by have := hsz.out; omega
 have hlo256 : lo < 256 := by rw [← hlo.out]; exact (acc_lt _).1
 have hhi256 : hi < 256 := by rw [← hhi.out]; exact (acc_lt _).2
 have c0 := hT.1 a.toNat (by omega)
 have c1 := (hT.2 k (by omega)).1
 have c2 := (hT.2 k (by omega)).2
 rw [hx.out] at c0
 replace c0 : w.cell? ⟨0, a.toNat, none⟩ = some (.int .u8 (x : Int)) := c0
 rw [hlo.out, Nat.mul_comm] at c1
 rw [hhi.out, Nat.mul_comm] at c2
 replace c1 : w.cell? ⟨1, k * 2, none⟩ = some (.int .u8 (lo : Int)) := c1
 replace c2 : w.cell? ⟨1, k * 2 + 1, none⟩ = some (.int .u8 (hi : Int)) := c2
 have FN : fullN n a.toNat b.toNat c.toNat = if sz ≤ n then true else if 1 < n ∧ (b.toNat < lo ∨ hi < b.toNat) then true else decide (2 < n ∧ (c.toNat < 128 ∨ 191 < c.toNat)) := by
  unfold fullN
  rw [hx.out, hsz.out, hk.out, hlo.out, hhi.out]
 rw [FB, FN]
 have q1 : bits BinOp.and IntKind.u8 (x : Int) 7 = (sz : Int) := by
  have h := bits_mask .u8 8 (by decide) wraps_u8 3 (by decide) (x : Int) (by omega) (by omega)
  have e := hsz.out
  have e2 : (2 : Int) ^ 3 - 1 = 7 := rfl
  rw [e2] at h
  rw [h]
  omega
 have q2 : (x : Int) / 16 = (k : Int) := by have := hk.out; omega
 have s1 : ∀ h : 1 < s.size, s[1] = b := fun h => by rw [get_at s h]; exact hb.out
 have s2 : ∀ h : 2 < s.size, s[2] = c := fun h => by rw [get_at s h]; exact hc.out
 have lb := b.toNat_lt
 have lc := c.toNat_lt
 have OA := hide (Old.alloc (Old.refl w) (.cells #[.int .u8 lo, .int .u8 hi] 181))
 clear FB FN gd hT hlen h0
 subst hn
 have g0 : ¬ ((s.size : Int) = 0) := by omega
 have g0' : ((s.size : Int) == 0) = false := beq_eq_false_iff_ne.2 g0
 by_cases h1 : sz ≤ s.size
 · rw [if_pos h1]
   have h1' : (sz : Int) ≤ (s.size : Int) := by omega
   go_enter Tryz.func205, Tryz.ntmps205
   go_wp2_with fail
   go_ret
   exact ⟨rfl, Old.refl _⟩
 · rw [if_neg h1]
   have h1' : ¬ (sz : Int) ≤ (s.size : Int) := by omega
   by_cases h2 : 1 < s.size
   · have h2' : (1 : Int) < (s.size : Int) := by omega
     have e1 := s1 h2
     by_cases h3 : b.toNat < lo
     · rw [if_pos ⟨h2, .inl h3⟩]
       have h3' : (b.toNat : Int) < (lo : Int) := by omega
       clear s1 s2
       go_enter Tryz.func205, Tryz.ntmps205
       go_wp2_with fail
       go_quiet (fail)
       go_wp2_with fail
       go_ret
       exact ⟨rfl, OA.out.drewN _⟩
     · have h3' : ¬ (b.toNat : Int) < (lo : Int) := by omega
       by_cases h4 : hi < b.toNat
       · rw [if_pos ⟨h2, .inr h4⟩]
         have h4' : (hi : Int) < (b.toNat : Int) := by omega
         clear s1 s2
         go_enter Tryz.func205, Tryz.ntmps205
         go_wp2_with fail
         go_quiet (fail)
         go_wp2_with fail
         go_ret
         exact ⟨rfl, OA.out.drewN _⟩
       · have h4' : ¬ (hi : Int) < (b.toNat : Int) := by omega
         rw [if_neg (by rintro ⟨_, h | h⟩; exact h3 h; exact h4 h)]
         by_cases h5 : 2 < s.size
         · have h5' : (2 : Int) < (s.size : Int) := by omega
           have e2 := s2 h5
           by_cases h6 : c.toNat < 128
           · rw [decide_eq_true (show 2 < s.size ∧ (c.toNat < 128 ∨ 191 < c.toNat) from ⟨h5, .inl h6⟩)]
             have h6' : (c.toNat : Int) < 128 := by omega
             clear s1 s2
             go_enter Tryz.func205, Tryz.ntmps205
             go_wp2_with fail
             go_quiet (fail)
             go_wp2_with fail
             go_ret
             exact ⟨rfl, OA.out.drewN _⟩
           · have h6' : ¬ (c.toNat : Int) < 128 := by omega
             by_cases h7 : 191 < c.toNat
             · rw [decide_eq_true (show 2 < s.size ∧ (c.toNat < 128 ∨ 191 < c.toNat) from ⟨h5, .inr h7⟩)]
               have h7' : (191 : Int) < (c.toNat : Int) := by omega
               clear s1 s2
               go_enter Tryz.func205, Tryz.ntmps205
               go_wp2_with fail
               go_quiet (fail)
               go_wp2_with fail
               go_ret
               exact ⟨rfl, OA.out.drewN _⟩
             · rw [decide_eq_false (show ¬ (2 < s.size ∧ (c.toNat < 128 ∨ 191 < c.toNat)) by omega)]
               have h7' : ¬ (191 : Int) < (c.toNat : Int) := by omega
               clear s1 s2
               go_enter Tryz.func205, Tryz.ntmps205
               go_wp2_with fail
               go_quiet (fail)
               go_wp2_with fail
               go_ret
               exact ⟨rfl, OA.out.drewN _⟩
         · have h5' : ¬ (2 : Int) < (s.size : Int) := by omega
           rw [decide_eq_false (show ¬ (2 < s.size ∧ (c.toNat < 128 ∨ 191 < c.toNat)) by omega)]
           clear s1 s2
           go_enter Tryz.func205, Tryz.ntmps205
           go_wp2_with fail
           go_quiet (fail)
           go_wp2_with fail
           go_ret
           exact ⟨rfl, OA.out.drewN _⟩
   · have h2' : ¬ (1 : Int) < (s.size : Int) := by omega
     have h2d : decide ((1 : Int) < (s.size : Int)) = false := decide_eq_false h2'
     have h5' : ¬ (2 : Int) < (s.size : Int) := by omega
     rw [if_neg (fun h => h2 h.1), decide_eq_false (show ¬ (2 < s.size ∧ (c.toNat < 128 ∨ 191 < c.toNat)) by omega)]
     clear s1 s2
     go_enter Tryz.func205, Tryz.ntmps205
     go_wp2_with fail
     go_quiet (fail)
     go_wp2_with fail
     go_ret
     exact ⟨rfl, OA.out.drewN _⟩
theorem unext_run (s : ByteArray) (l : List UInt8) (w : World) (hl : s.data.toList = l) (h0 : l ≠ []) (hT : Tabs w) :
 Calls Tryz.prog 204 #[.string s] w fun e w' => (∃ r : Nat, e = .returned (.tuple #[.int .i32 r, .int .i64 (runeN l), .bool (decide (runeN l ≠ 0))])) ∧ Old w w' := by
 subst hl
 have hs : s.size ≠ 0 := fun h => h0 (List.eq_nil_of_length_eq_zero (by simpa using h))
 have hd : Lib.decodeGo s = Utf8.decode s 0 := by unfold Lib.decodeGo; rw [if_neg hs]
 have hb : bT s.data.toList = s := bT_of s
 have CD := Tryz.utf8_DecodeRuneInString s w hT
 rw [hd] at CD
 have hp := decode_pos s
 obtain ⟨r, hr⟩ : ∃ r, Hid ((Utf8.decode s 0).1 = r) := ⟨_, hide rfl⟩
 obtain ⟨n, hn⟩ : ∃ r, Hid ((Utf8.decode s 0).2 = r) := ⟨_, hide rfl⟩
 have RN : runeN s.data.toList = if r = 65533 ∧ n = 1 then 0 else n := by
  unfold runeN
  rw [hb]
  have e : Utf8.decode s 0 = (r, n) := by rw [← hr.out, ← hn.out]
  rw [e]
  by_cases h : r = 65533 ∧ n = 1
  · rw [if_pos h, if_pos (by rw [h.1, h.2])]
  · rw [if_neg h, if_neg (fun e => by injection e with e1 e2; exact h ⟨e1, e2⟩)]
 have RN := hide RN
 rw [hr.out, hn.out] at CD
 rw [hn.out] at hp
 have CD := hide CD
 clear hd hb hs h0
 by_cases h1 : r = 65533
 · have h1' : ((r : Int) == 65533) = true := by simp [h1]
   by_cases h2 : n < 2
   · have h2' : (n : Int) < 2 := by omega
     have EZ := hide (show runeN s.data.toList = 0 by rw [RN.out, if_pos ⟨h1, by omega⟩])
     clear h1
     go_enter Tryz.func204, Tryz.ntmps204
     go_wp2_with fail
     refine CD.out.mono ?_
     rintro e w1 ⟨rfl, o1⟩
     have O1 := hide o1
     clear o1
     go_wp2_with fail
     go_ret3
     exact ⟨⟨0, by rw [EZ.out]; rfl⟩, O1.out⟩
   · have h2' : ¬ (n : Int) < 2 := by omega
     have EZ := hide (show runeN s.data.toList = n by rw [RN.out, if_neg (by omega)])
     have EB := hide (show decide (n ≠ 0) = true by simp; omega)
     clear h1
     go_enter Tryz.func204, Tryz.ntmps204
     go_wp2_with fail
     refine CD.out.mono ?_
     rintro e w1 ⟨rfl, o1⟩
     have O1 := hide o1
     clear o1
     go_wp2_with fail
     go_ret3
     exact ⟨⟨r, by rw [EZ.out, EB.out]; rfl⟩, O1.out⟩
 · have h1' : ((r : Int) == 65533) = false := by simp; omega
   have EZ := hide (show runeN s.data.toList = n by rw [RN.out, if_neg (by omega)])
   have EB := hide (show decide (n ≠ 0) = true by simp; omega)
   clear h1
   go_enter Tryz.func204, Tryz.ntmps204
   go_wp2_with fail
   refine CD.out.mono ?_
   rintro e w1 ⟨rfl, o1⟩
   have O1 := hide o1
   clear o1
   go_wp2_with fail
   go_ret3
   exact ⟨⟨r, by rw [EZ.out, EB.out]; rfl⟩, O1.out⟩
end Go.Proofs.YthlfljmfggmfdaaGreatDoor

/-! ###  -/
namespace Go.Proofs.YthlfljmfggmfdaaGreatDoor
open Go.RowKit
def escR (l : List UInt8) : RSt := match escV l with | .ok (_, r) => .ok r | .error c => .error c
def escT (l : List UInt8) : List UInt8 := match escV l with | .ok (t, _) => t | .error _ => []
def uniR (σ : RSt) : RSt := if isHigh (halfN false σ) = true then halfR true (wantR 117 (wantR 92 (halfR false σ))) else halfR false σ
def uniN (σ : RSt) : Nat := if isHigh (halfN false σ) = true then pairOf (halfN false σ) (halfN true (wantR 117 (wantR 92 (halfR false σ)))) else halfN false σ
theorem wantR_err (x : UInt8) (c : Int) : wantR x (.error c) = .error c := rfl
theorem uniR_err (c : Int) : uniR (.error c) = .error c := by
 unfold uniR
 rw [halfR_err, wantR_err, wantR_err, halfR_err]
 split <;> rfl
theorem esc_uni {c : UInt8} {r : List UInt8} (h1 : c ≠ 47) (h2 : shortV c = none) : escR (c :: r) = uniR (if c = 117 then .ok r else .error 41) ∧ ∀ q, escR (c :: r) = .ok q → escT (c :: r) = encL (uniN (if c = 117 then .ok r else .error 41)) := by
 unfold escR escT
 simp only [escV, if_neg h1, h2]
 by_cases hu : c = 117
 · rw [if_neg (fun h => h hu), if_pos hu]
   have hh := half_eq false r
   cases h3 : half4 false r with
   | error e =>
     rw [h3] at hh
     simp only at hh
     refine ⟨?_, fun q hq => by simp at hq⟩
     unfold uniR
     rw [hh, wantR_err, wantR_err, halfR_err]
     exact (ite_self _).symm
   | ok x =>
     obtain ⟨n, r1⟩ := x
     rw [h3] at hh
     obtain ⟨e1, e2⟩ := hh
     unfold uniR uniN
     rw [e1, e2]
     by_cases hn : isHigh n = true
     · simp only [if_pos hn]
       cases h4 : want1 92 r1 with
       | error e =>
         have : wantR 92 (.ok r1) = .error e := h4
         simp only [this, wantR_err, halfR_err]
         exact ⟨trivial, fun q hq => by cases hq⟩
       | ok r2 =>
         have w1 : wantR 92 (.ok r1) = .ok r2 := h4
         simp only [w1]
         cases h5 : want1 117 r2 with
         | error e =>
           have : wantR 117 (.ok r2) = .error e := h5
           simp only [this, halfR_err]
           exact ⟨trivial, fun q hq => by cases hq⟩
         | ok r3 =>
           have w2 : wantR 117 (.ok r2) = .ok r3 := h5
           simp only [w2]
           have hk := half_eq true r3
           cases h6 : half4 true r3 with
           | error e =>
             rw [h6] at hk
             simp only at hk
             simp only [hk]
             exact ⟨trivial, fun q hq => by cases hq⟩
           | ok y =>
             obtain ⟨k, r4⟩ := y
             rw [h6] at hk
             obtain ⟨f1, f2⟩ := hk
             simp only [f1, f2]
             exact ⟨trivial, fun q _ => trivial⟩
     · simp only [if_neg hn]
       exact ⟨trivial, fun q _ => trivial⟩
 · rw [if_pos hu, if_neg hu]
   exact ⟨(uniR_err 41).symm, fun q hq => by cases hq⟩
theorem short_pair {c : UInt8} {k : Nat} (h : shortV c = some k) : ((k : Int) = 8 ∧ (c.toNat : Int) = 98) ∨ ((k : Int) = 9 ∧ (c.toNat : Int) = 116) ∨ ((k : Int) = 10 ∧ (c.toNat : Int) = 110) ∨ ((k : Int) = 12 ∧ (c.toNat : Int) = 102) ∨ ((k : Int) = 13 ∧ (c.toNat : Int) = 114) ∨ ((k : Int) = 34 ∧ (c.toNat : Int) = 34) ∨ ((k : Int) = 92 ∧ (c.toNat : Int) = 92) := by
 unfold shortV at h
 repeat' split at h
 all_goals first | (cases h; done) | skip
 all_goals (injection h with h; subst_vars; decide)
theorem short_none {c : UInt8} (h : shortV c = none) {x y : Int} (hp : (x = 8 ∧ y = 98) ∨ (x = 9 ∧ y = 116) ∨ (x = 10 ∧ y = 110) ∨ (x = 12 ∧ y = 102) ∨ (x = 13 ∧ y = 114) ∨ (x = 34 ∧ y = 34) ∨ (x = 92 ∧ y = 92)) : y ≠ (c.toNat : Int) := by
 intro e
 have hc : c = UInt8.ofNat y.toNat := by
  rw [e]
  simp
 rcases hp with ⟨_, rfl⟩ | ⟨_, rfl⟩ | ⟨_, rfl⟩ | ⟨_, rfl⟩ | ⟨_, rfl⟩ | ⟨_, rfl⟩ | ⟨_, rfl⟩ <;> (rw [hc] at h; exact absurd h (by decide))
theorem esc_all {l : List UInt8} {c : UInt8} {σ : RSt} (hc : takeV (.ok l) = c) (hσ : takeR (.ok l) = σ) (h1 : c ≠ 47) (h2 : shortV c = none) :
 escR l = uniR (if c = 117 then σ else failR 41 σ) ∧ (∀ q, escR l = .ok q → escT l = encL (uniN (if c = 117 then σ else failR 41 σ))) ∧ ∀ e, escR l = .error e → escT l = [] := by
 refine ⟨?_, ?_, fun e he => ?_⟩
 · cases l with
   | nil =>
     simp only [takeV, takeR] at hc hσ
     subst hc hσ
     rw [if_neg (by decide), failR_err, uniR_err]
     rfl
   | cons x r =>
     simp only [takeV, takeR] at hc hσ
     subst hc hσ
     exact (esc_uni h1 h2).1
 · cases l with
   | nil => intro q hq; simp [escR, escV] at hq
   | cons x r =>
     simp only [takeV, takeR] at hc hσ
     subst hc hσ
     exact (esc_uni h1 h2).2
 · unfold escR at he
   unfold escT
   cases hx : escV l with
   | error e => rfl
   | ok x =>
     obtain ⟨t, r⟩ := x
     rw [hx] at he
     cases he
theorem pairOf_int {n k : Nat} (h : isHigh n = true) (hk : k < 65536) : ((pairOf n k : Nat) : Int) = 65536 + ((n : Int) - 55296) * 1024 + (k : Int) - 56320 := by
 unfold isHigh at h
 simp only [Bool.and_eq_true, decide_eq_true_eq] at h
 unfold pairOf
 omega
theorem halfN_lt (b : Bool) (σ : RSt) : halfN b σ < 65536 := by
 unfold halfN
 have h1 := digV_lt σ
 have h2 := digV_lt (half2R b σ)
 have h3 := digV_lt (half3R b σ)
 have h4 := digV_lt (digR (half3R b σ))
 omega
theorem halves_run (rb : Nat) (s : ByteArray) (second : Bool) (σ τ : RSt) (n : Nat) (w : World) (hs : s.size ≤ 1073741824) (h : Rd rb s σ w) (hn : halfN second σ = n) (hτ : halfR second σ = τ) :
 Calls Tryz.prog 203 #[.pointer (some ⟨rb, 0, none⟩), .bool second] w fun e w' => e = .returned (.int .i32 n) ∧ Rd rb s τ w' ∧ One rb w w' := by
 subst hn hτ
 exact half_run rb s second σ w hs h
theorem esc_short {l : List UInt8} {c : UInt8} {σ : RSt} {k : Nat} (hc : takeV (.ok l) = c) (hσ : takeR (.ok l) = σ) (h1 : c ≠ 47) (h2 : shortV c = some k) : escR l = σ ∧ escT l = encL k ∧ Maps.has dTwo (.int .i32 k) = true := by
 have hk : Maps.has dTwo (.int .i32 (k : Int)) = true := by
  rw [dTwo_has]
  unfold shortV at h2
  repeat' split at h2
  all_goals first | (cases h2; done) | skip
  all_goals (injection h2 with h2; subst h2; rfl)
 cases l with
 | nil =>
   simp only [takeV] at hc
   subst hc
   rw [show shortV 0 = none from by decide] at h2
   cases h2
 | cons x r =>
   simp only [takeV, takeR] at hc hσ
   subst hc hσ
   exact ⟨by simp [escR, escV, h1, h2], by simp [escT, escV, h1, h2], hk⟩
theorem short_same {c : UInt8} {k : Nat} {x y : Int} (h : ((k : Int) = 8 ∧ (c.toNat : Int) = 98) ∨ ((k : Int) = 9 ∧ (c.toNat : Int) = 116) ∨ ((k : Int) = 10 ∧ (c.toNat : Int) = 110) ∨ ((k : Int) = 12 ∧ (c.toNat : Int) = 102) ∨ ((k : Int) = 13 ∧ (c.toNat : Int) = 114) ∨ ((k : Int) = 34 ∧ (c.toNat : Int) = 34) ∨ ((k : Int) = 92 ∧ (c.toNat : Int) = 92))
 (hp : (x = 8 ∧ y = 98) ∨ (x = 9 ∧ y = 116) ∨ (x = 10 ∧ y = 110) ∨ (x = 12 ∧ y = 102) ∨ (x = 13 ∧ y = 114) ∨ (x = 34 ∧ y = 34) ∨ (x = 92 ∧ y = 92)) : (y = (c.toNat : Int) → x = k) ∧ (y ≠ (c.toNat : Int) → x ≠ k) := by
 constructor
 · intro e
   rcases h with ⟨a, b⟩ | ⟨a, b⟩ | ⟨a, b⟩ | ⟨a, b⟩ | ⟨a, b⟩ | ⟨a, b⟩ | ⟨a, b⟩ <;> rcases hp with ⟨a', b'⟩ | ⟨a', b'⟩ | ⟨a', b'⟩ | ⟨a', b'⟩ | ⟨a', b'⟩ | ⟨a', b'⟩ | ⟨a', b'⟩ <;> omega
 · intro e
   rcases h with ⟨a, b⟩ | ⟨a, b⟩ | ⟨a, b⟩ | ⟨a, b⟩ | ⟨a, b⟩ | ⟨a, b⟩ | ⟨a, b⟩ <;> rcases hp with ⟨a', b'⟩ | ⟨a', b'⟩ | ⟨a', b'⟩ | ⟨a', b'⟩ | ⟨a', b'⟩ | ⟨a', b'⟩ | ⟨a', b'⟩ <;> omega
def EscE (rb : Nat) (s : ByteArray) (l : List UInt8) (w : World) (e : Ending) (w' : World) : Prop := e = .returned (.string (bT (escT l))) ∧ Rd rb s (escR l) w' ∧ One rb w w'
set_option maxRecDepth 100000 in
set_option maxHeartbeats 4000000 in
theorem escape_run (rb : Nat) (s : ByteArray) (l : List UInt8) (w : World) (hs : s.size ≤ 1073741824) (h : Rd rb s (.ok l) w) :
 Calls Tryz.prog 179 #[.pointer (some ⟨rb, 0, none⟩)] w (EscE rb s l w) := by
 obtain ⟨c, hc⟩ : ∃ c, Hid (takeV (.ok l) = c) := ⟨_, hide rfl⟩
 obtain ⟨σ, hσ⟩ : ∃ x, Hid (takeR (.ok l) = x) := ⟨_, hide rfl⟩
 have CT := hide (takes_run rb s (.ok l) c w hs h hc.out)
 rw [hσ.out] at CT
 have hrb := hide (World.block_lt_of_cell? w ⟨rb, 0, none⟩ h.text)
 clear h
 by_cases h47 : c = 47
 · have FIN := hide (show escR l = σ ∧ escT l = [47] by
    cases l with
    | nil => have := hc.out; simp only [takeV] at this; rw [← this] at h47; cases h47
    | cons x r =>
      have e1 := hc.out
      have e2 := hσ.out
      simp only [takeV, takeR] at e1 e2
      subst e1 e2 h47
      simp [escR, escT, escV])
   have hq : ((c.toNat : Int) == 47) = true := by rw [h47]; rfl
   clear h47
   go_enter Tryz.func179, Tryz.ntmps179
   go_wp2_with fail
   refine CT.out.mono ?_
   rintro e w1 ⟨rfl, r1, o1⟩
   have R1 := hide r1
   have O1 := hide o1
   clear r1 o1
   go_wp2_with fail
   go_ret
   exact ⟨by rw [FIN.out.2]; rfl, by rw [FIN.out.1]; exact R1.out, O1.out⟩
 · have hq : ((c.toNat : Int) == 47) = false := by
    have : c.toNat ≠ 47 := fun e => h47 (UInt8.toNat_inj.1 e)
    simp; omega
   go_enter Tryz.func179, Tryz.ntmps179
   go_wp2_with fail
   refine CT.out.mono ?_
   rintro e w1 ⟨rfl, r1, o1⟩
   have R1 := hide r1
   have O1 := hide o1
   have z1 := o1.size
   clear r1 o1
   go_wp2_with fail
   refine (short_run w1).mono ?_
   rintro e w2 ⟨b, rfl, hb, hb2, M2, o2⟩
   have O2 := hide o2
   have hm := hide M2
   clear o2 M2
   have LAW := Maps.int_keyed Tryz.underlying21
   go_wp2_with (at_range; refine wpList_range_own _ rfl _ 214 rfl 21 5 LAW Tryz.underlying214 _ b 7 _ rfl hm.out ?_; intro w3 hrg3 hg3 hs3)
   go_frame
   have O3 := hide (show Old w1 w3 from Below.grown O2.out hg3 O2.out.size fun k hk => by cases hk)
   have HR3 := hide hrg3
   have z3 := O2.out.size
   clear hrg3 hg3 hs3
   cases hsv : shortV c with
   | some k =>
     have SP := hide (short_pair hsv)
     have FIN := hide (esc_short hc.out hσ.out h47 hsv)
     clear hsv h47
     go_loopw [4] (fun _ wr => ∃ (left : Lit → Bool) (cnt : Nat), Hid (left (.int .i32 (k : Int)) = true) ∧ Hid (wr.ranges (H := Unit) Tryz.prog 21 (plainElem Tryz.prog 5) b w2.heap.size 7 dTwo left cnt) ∧ Hid (Old w1 wr)) (fun _ wr => wr.rangeLeft b w2.heap.size)
     case atStart => exact ⟨_, _, hide FIN.out.2.2, HR3, O3⟩
     case round =>
      obtain ⟨left, cnt, hlk, hrg, HO⟩ := hrel
      go_wp2_with (at_next; refine wpList_next_ranges_ii _ rfl _ rfl 21 5 .i32 .u8 LAW Tryz.underlying21 Tryz.underlying5 b w2.heap.size 7 _ _ _ rfl hrg.out ?_ ?_)
      · intro _ hno
        exact absurd (hlk.out.symm.trans (hno _)) (by decide)
      · intro x y w4 cnt1 hwx hwc hlx hat hrg1 hlt hg1 hs1 hen
        have SS := hide (short_same SP.out (dTwo_pair hat))
        have HG1 := hide hrg1
        have O4 := hide (show Old w1 w4 from Below.grown HO.out hg1 HO.out.size fun k hk => by cases hk; exact z3)
        have ML := hide (show w4.rangeLeft b w2.heap.size < wr.rangeLeft b w2.heap.size by rw [hrg1.left_eq, hrg.out.left_eq]; exact hlt)
        clear hat hrg1 hg1 hlx hlt
        by_cases hy : y = (c.toNat : Int)
        · have hx := SS.out.1 hy
          subst hx
          have hy' : (y == (c.toNat : Int)) = true := by simp [hy]
          have EE := hide (show bT (escT l) = Utf8.encode ((k : Nat) : Int) by rw [FIN.out.2.1]; unfold encL; rw [bT_of])
          have RF := hide (show Rd rb s (escR l) w4 by rw [FIN.out.1]; exact R1.out.old O4.out)
          have OF := hide (show One rb w w4 from One.trans O1.out ((One.refl rb w1).old O4.out))
          clear hy
          go_wp2_with fail
          go_ret
          exact ⟨by rw [EE.out]; rfl, RF.out, OF.out⟩
        · have hx := SS.out.2 hy
          have hy' : (y == (c.toNat : Int)) = false := beq_eq_false_iff_ne.2 hy
          have HL := hide (show (left (.int .i32 (k : Int)) && !(Lit.int .i32 (k : Int)).sameKey (.int .i32 x)) = true by
           rw [hlk.out]
           simp [Lit.sameKey]
           omega)
          clear hy hx
          go_wp2_with fail
          go_roundw
          case rel => exact ⟨_, cnt1, HL, HG1, O4⟩
          case measure => exact ML.out
   | none =>
     have SN := hide (fun (x y : Int) hp => short_none hsv (x := x) (y := y) hp)
     have EU := hide (esc_all hc.out hσ.out h47 hsv)
     clear hsv h47
     go_loopw [4] (fun _ wr => ∃ (left : Lit → Bool) (cnt : Nat), Hid (wr.ranges (H := Unit) Tryz.prog 21 (plainElem Tryz.prog 5) b w2.heap.size 7 dTwo left cnt) ∧ Hid (Old w1 wr)) (fun _ wr => wr.rangeLeft b w2.heap.size)
     case atStart => exact ⟨_, _, HR3, O3⟩
     case round =>
      obtain ⟨left, cnt, hrg, HO⟩ := hrel
      go_wp2_with (at_next; refine wpList_next_ranges_ii _ rfl _ rfl 21 5 .i32 .u8 LAW Tryz.underlying21 Tryz.underlying5 b w2.heap.size 7 _ _ _ rfl hrg.out ?_ ?_)
      · intro _ _
        have ON := hide (One.trans O1.out ((One.refl rb w1).old HO.out))
        have RN := hide (R1.out.old HO.out)
        have hu2 := hide (show True from trivial)
        obtain ⟨σ2, h2⟩ : ∃ x, Hid ((if c = 117 then σ else failR 41 σ) = x) := ⟨_, hide rfl⟩
        rw [h2.out] at EU
        obtain ⟨n, hn⟩ : ∃ x, Hid (halfN false σ2 = x) := ⟨_, hide rfl⟩
        have hnlt : n < 65536 := by rw [← hn.out]; exact halfN_lt _ _
        obtain ⟨σ3, h3⟩ : ∃ x, Hid (halfR false σ2 = x) := ⟨_, hide rfl⟩
        have C3 := hide (fun w' (r : Rd rb s σ2 w') => halves_run rb s false σ2 σ3 n w' hs r hn.out h3.out)
        obtain ⟨m, hm2⟩ : ∃ x, Hid (uniN σ2 = x) := ⟨_, hide rfl⟩
        obtain ⟨σ6, h6⟩ : ∃ x, Hid (uniR σ2 = x) := ⟨_, hide rfl⟩
        rw [hm2.out, h6.out] at EU
        have UN := hm2
        have UR := h6
        have UN := hide hm2.out
        have UR := hide h6.out
        unfold uniN at UN
        unfold uniR at UR
        rw [hn.out, h3.out] at UN UR
        clear hrg HO HR3 O3 R1 O1 O2 hm hn h3 hm2 h6
        go_upto_if 24 with fail
        go_cut [] (fun wd => Hid (Rd rb s σ2 wd) ∧ Hid (One rb w wd))
        case first =>
         by_cases hu : c = 117
         · have e2 := h2.out
           rw [if_pos hu] at e2
           have FIN := hide (show Rd rb s σ2 wr by rw [← e2]; exact RN.out)
           have hq2 : ((c.toNat : Int) != 117) = false := by rw [hu]; rfl
           clear hu e2
           go_wp2_with fail
           go_meet
           exact ⟨FIN, ON⟩
         · have e2 := h2.out
           rw [if_neg hu] at e2
           have CF := hide (rfail_run rb s σ 41 wr RN.out (by decide))
           rw [e2] at CF
           have hq2 : ((c.toNat : Int) != 117) = true := by
            have : c.toNat ≠ 117 := fun e => hu (UInt8.toNat_inj.1 e)
            simp; omega
           clear hu e2
           go_wp2_with fail
           refine CF.out.mono ?_
           rintro e w5 ⟨rfl, r5, o5⟩
           have R5 := hide r5
           have O5 := hide (ON.out.trans o5)
           clear r5 o5
           go_wp2_with fail
           go_meet
           exact ⟨R5, O5⟩
        case rest =>
         obtain ⟨R5, O5⟩ := hcut
         go_wp2_with fail
         refine (C3.out _ R5.out).mono ?_
         rintro e w6 ⟨rfl, r6, o6⟩
         have R6 := hide r6
         have O6 := hide (O5.out.trans o6)
         clear r6 o6 C3 R5 O5
         obtain ⟨B, hB⟩ : ∃ B, Hid (isHigh n = B) := ⟨_, hide rfl⟩
         rw [hB.out] at UN UR
         go_upto_region 12 with fail
         go_cut [34] (fun bv wd => bv = .bool B ∧ wd = w6)
         case first =>
          by_cases g1 : 55296 ≤ n
          · have g1' : (55296 : Int) ≤ (n : Int) := by omega
            by_cases g2 : n < 56320
            · have g2' : (n : Int) < 56320 := by omega
              have e0 := hide (show B = true by rw [← hB.out]; unfold isHigh; rw [decide_eq_true g1, decide_eq_true g2]; rfl)
              go_wp2_with fail
              go_meet
              exact ⟨by rw [e0.out], rfl⟩
            · have g2' : ¬ (n : Int) < 56320 := by omega
              have e0 := hide (show B = false by rw [← hB.out]; unfold isHigh; rw [decide_eq_false g2, Bool.and_false])
              go_wp2_with fail
              go_meet
              exact ⟨by rw [e0.out], rfl⟩
          · have g1' : ¬ (55296 : Int) ≤ (n : Int) := by omega
            have e0 := hide (show B = false by rw [← hB.out]; unfold isHigh; rw [decide_eq_false g1, Bool.false_and])
            go_wp2_with fail
            go_meet
            exact ⟨by rw [e0.out], rfl⟩
         case rest =>
          obtain ⟨rfl, rfl⟩ := hcut
          go_upto_if 34 with fail
          go_cut [6] (fun nv wd => nv = .int .i32 (m : Int) ∧ Hid (Rd rb s σ6 wd) ∧ Hid (One rb w wd))
          case first =>
           cases B
           · have e1 := UN.out
             have e2 := UR.out
             rw [if_neg (by decide)] at e1 e2
             have FIN := hide (show Rd rb s σ6 _ by rw [← e2]; exact R6.out)
             have EM := hide e1
             clear e1 e2
             go_wp2_with fail
             go_meet
             exact ⟨by rw [EM.out], FIN, O6⟩
           · have e1 := UN.out
             have e2 := UR.out
             rw [if_pos rfl] at e1 e2
             obtain ⟨σ4, h4⟩ : ∃ x, Hid (wantR 92 σ3 = x) := ⟨_, hide rfl⟩
             rw [h4.out] at e1 e2
             obtain ⟨σ5, h5⟩ : ∃ x, Hid (wantR 117 σ4 = x) := ⟨_, hide rfl⟩
             rw [h5.out] at e1 e2
             obtain ⟨k, hk⟩ : ∃ x, Hid (halfN true σ5 = x) := ⟨_, hide rfl⟩
             have hklt : k < 65536 := by rw [← hk.out]; exact halfN_lt _ _
             rw [hk.out] at e1
             have PI := pairOf_int hB.out hklt
             rw [e1] at PI
             have E2 := hide e2
             have hn1 : 55296 ≤ n ∧ n < 56320 := by
              have := hB.out
              unfold isHigh at this
              simpa using this
             have PII := hide PI
             have CW1 := hide (want_run rb s σ3 92 _ hs R6.out)
             rw [h4.out] at CW1
             clear e1 e2 PI
             obtain ⟨hn1, hn2⟩ := hn1
             go_wp2_with fail
             refine CW1.out.mono ?_
             rintro e w7 ⟨rfl, r7, o7⟩
             have O7 := hide (O6.out.trans o7)
             have CW2 := hide (want_run rb s σ4 117 _ hs r7)
             rw [h5.out] at CW2
             clear r7 o7 CW1
             go_wp2_with fail
             refine CW2.out.mono ?_
             rintro e w8 ⟨rfl, r8, o8⟩
             have O8 := hide (O7.out.trans o8)
             have CH := hide (halves_run rb s true σ5 σ6 k w8 hs r8 hk.out E2.out)
             clear r8 o8 CW2
             go_wp2_with fail
             refine CH.out.mono ?_
             rintro e w9 ⟨rfl, r9, o9⟩
             have O9 := hide (O8.out.trans o9)
             have R9 := hide r9
             clear r9 o9 CH
             go_wp2_with fail
             go_meet
             exact ⟨by rw [PII.out], R9, O9⟩
          case rest =>
           obtain ⟨rfl, R9, O9⟩ := hcut
           have RR := R9.out
           obtain ⟨_, _, _, at_, er, _, x2, hst⟩ := RR
           cases σ6 with
           | error d =>
             obtain ⟨rfl, hd⟩ := hst
             have hd' : (er != 0) = true := by simpa using hd
             have FT := hide (EU.out.2.2 er EU.out.1)
             have FR := hide EU.out.1
             clear hd
             go_wp2_with fail
             go_ret
             exact ⟨by rw [FT.out]; rfl, by rw [FR.out]; exact R9.out, O9.out⟩
           | ok q =>
             obtain ⟨rfl, _⟩ := hst
             have FT := hide (EU.out.2.1 q EU.out.1)
             have FR := hide EU.out.1
             go_wp2_with fail
             go_ret
             exact ⟨by rw [FT.out]; unfold encL; rw [bT_of]; rfl, by rw [FR.out]; exact R9.out, O9.out⟩
      · intro x y w4 cnt1 hwx hwc hlx hat hrg1 hlt hg1 hs1 hen
        have hne := SN.out x y (dTwo_pair hat)
        have hne' : (y == (c.toNat : Int)) = false := beq_eq_false_iff_ne.2 hne
        have HG1 := hide hrg1
        have O4 := hide (show Old w1 w4 from Below.grown HO.out hg1 HO.out.size fun k hk => by cases hk; exact z3)
        have ML := hide (show w4.rangeLeft b w2.heap.size < wr.rangeLeft b w2.heap.size by rw [hrg1.left_eq, hrg.out.left_eq]; exact hlt)
        clear hne hat hrg1 hg1 hlx hlt
        go_wp2_with fail
        go_roundw
        case rel => exact ⟨_, cnt1, HG1, O4⟩
        case measure => exact ML.out
end Go.Proofs.YthlfljmfggmfdaaGreatDoor

/-! ###  -/
namespace Go.Proofs.YthlfljmfggmfdaaGreatDoor
open Go.RowKit
def plR (l : List UInt8) : RSt := match plainV l with | .ok (_, r) => .ok r | .error c => .error c
def plT (l : List UInt8) : List UInt8 := match plainV l with | .ok (t, _) => t | .error _ => []
theorem ext_list (s : ByteArray) (n : Nat) : (s.extract n s.size).data.toList = s.data.toList.drop n := by
 rw [ByteArray.data_extract, Array.toList_extract]
 simp only [List.extract]
 rw [List.take_of_length_le]
 simp
theorem runeN_le {l : List UInt8} (h : l ≠ []) : runeN l ≤ l.length := by
 unfold runeN
 split
 · omega
 · have h1 := nextN_bd (txt l)
   have h2 := next_decode l h
   have e : bT l = txt l := rfl
   rename_i hne
   rw [e] at hne ⊢
   rw [if_neg hne] at h2
   rw [txt_size] at h1
   omega
set_option maxRecDepth 100000 in
set_option maxHeartbeats 1000000 in
theorem plain_run (rb : Nat) (s : ByteArray) (c : UInt8) (r : List UInt8) (w : World) (hs : s.size ≤ 1073741824) (h : Rd rb s (.ok (c :: r)) w) (hT : Tabs w) :
 Calls Tryz.prog 180 #[.pointer (some ⟨rb, 0, none⟩)] w fun e w' => e = .returned (.string (bT (plT (c :: r)))) ∧ Rd rb s (plR (c :: r)) w' ∧ One rb w w' := by
 have H := hide h
 obtain ⟨h1, h2, h3, k, e, h4, h5, h6⟩ := h
 obtain ⟨rfl, n, rfl, hn, hd⟩ := h6
 have hl := (ext_list s n).trans hd
 have hnlt : n < s.size := by simp only [List.length_cons] at hn; omega
 have hx0 : 0 < (s.extract n s.size).size := by rw [ByteArray.size_extract]; omega
 have hx1 : (s.extract n s.size).size = s.size - n := by rw [ByteArray.size_extract]; omega
 have x0 : (s.extract n s.size)[0]'hx0 = c := by
  have e1 : (s.extract n s.size)[0]'hx0 = (s.extract n s.size).data.toList[0]'(by simpa using hx0) := rfl
  rw [e1]
  simp only [hl]
  rfl
 obtain ⟨N, hN⟩ : ∃ N, Hid (runeN (c :: r) = N) := ⟨_, hide rfl⟩
 have hNle : N ≤ s.size - n := by rw [← hN.out]; have := runeN_le (l := c :: r) (by simp); omega
 have CN := hide (fun w' (o : Tabs w') => unext_run (s.extract n s.size) (c :: r) w' hl (by simp) o)
 rw [hN.out] at CN
 have HT := hide hT
 have PV : plainV (c :: r) = if c.toNat < 32 then .error 41 else if N ≠ 0 then .ok ((c :: r).take N, (c :: r).drop N) else if fullB (c :: r) = false then .error 3 else .error 40 := by
  rw [← hN.out]
  rfl
 have PV := hide PV
 have HN := hide hn
 have HD := hide hd
 have HL := hide hl
 have EF := hide (fun (x : Int) (hx : x ≠ 0) (hp : plainV (c :: r) = .error x) => (show plT (c :: r) = [] ∧ plR (c :: r) = .error x by unfold plT plR; rw [hp]; exact ⟨rfl, rfl⟩))
 have CF := hide (fun (x : Int) (hx : x ≠ 0) (hp : plainV (c :: r) = .error x) w' (rr : Rd rb s (.ok (c :: r)) w') (oo : One rb w w') => (rfail_run rb s (.ok (c :: r)) x w' rr hx).mono fun e w2 (hh : e = .returned (.tuple #[]) ∧ Rd rb s (failR x (.ok (c :: r))) w2 ∧ One rb w' w2) => (show e = .returned (.tuple #[]) ∧ Rd rb s (plR (c :: r)) w2 ∧ One rb w w2 from ⟨hh.1, by rw [(EF.out x hx hp).2]; exact hh.2.1, oo.trans hh.2.2⟩))
 have hin : (0 : Int) ≤ (n : Int) ∧ (n : Int) ≤ (s.size : Int) := by omega
 obtain ⟨hin1, hin2⟩ := hin
 clear hT hn hd hl
 by_cases h32 : c.toNat < 32
 · have h32' : (c.toNat : Int) < 32 := by omega
   have PF := hide (show plainV (c :: r) = .error 41 by rw [PV.out, if_pos h32])
   go_enter Tryz.func180, Tryz.ntmps180
   go_wp2_with fail
   go_quiet (fail)
   go_wp2_with fail
   refine (CN.out _ (HT.out.old (Old.drewN (Old.refl _) _))).mono ?_
   rintro e w1 ⟨⟨rr, rfl⟩, o1⟩
   have O1 := hide (Old.trans (Old.drewN (Old.refl w) _) o1)
   clear o1
   go_wp2_with fail
   refine (CF.out 41 (by decide) PF.out _ (H.out.old O1.out) ((One.refl _ _).old O1.out)).mono ?_
   rintro e w2 ⟨rfl, r2, o2⟩
   have R2 := hide r2
   have O2 := hide o2
   clear r2 o2
   go_wp2_with fail
   go_ret
   exact ⟨by rw [(EF.out 41 (by decide) PF.out).1]; rfl, R2.out, O2.out⟩
 · have h32' : ¬ (c.toNat : Int) < 32 := by omega
   by_cases hz : N ≠ 0
   · have PO := hide (show plT (c :: r) = (c :: r).take N ∧ plR (c :: r) = .ok ((c :: r).drop N) by
      unfold plT plR; rw [PV.out, if_neg h32, if_pos hz]; exact ⟨rfl, rfl⟩)
     have hzd : decide (N ≠ 0) = true := decide_eq_true hz
     have XT := hide (show (s.extract n s.size).extract 0 N = bT (plT (c :: r)) by
      rw [PO.out.1, ← HL.out]
      apply bytes_ext
      simp only [ByteArray.toList_eq, ByteArray.data_extract, bT, Array.toList_extract]
      simp [List.extract])
     have AT := hide (show StR s (plR (c :: r)) ((n : Int) + (N : Int)) 0 by
      rw [PO.out.2]
      refine ⟨rfl, n + N, by simp, ?_, ?_⟩
      · rw [List.length_drop]; have := HN.out; omega
      · rw [← HD.out, List.drop_drop])
     clear hz
     go_enter Tryz.func180, Tryz.ntmps180
     go_wp2_with fail
     go_quiet (fail)
     go_wp2_with fail
     refine (CN.out _ (HT.out.old (Old.drewN (Old.refl _) _))).mono ?_
     rw [hzd]
     rintro e w1 ⟨⟨rr, rfl⟩, o1⟩
     have O1 := hide (Old.trans (Old.drewN (Old.refl w) _) o1)
     have y4 := O1.out.cell h4
     have y2 := O1.out.frozen h4 h2
     have R1 := hide ((H.out.old O1.out).setAt (O1.out.cell h5) AT.out)
     clear o1
     go_wp2_with fail
     go_ret
     exact ⟨by rw [← XT.out]; rfl, R1.out, ((One.refl rb w).old O1.out).set _ _⟩
   · have hzd : decide (N ≠ 0) = false := decide_eq_false hz
     have FU := hide (fun w' (o : Tabs w') => full_run (s.extract n s.size) (c :: r) w' HL.out (by simp) (by omega) o)
     obtain ⟨B, hB⟩ : ∃ B, Hid (fullB (c :: r) = B) := ⟨_, hide rfl⟩
     rw [hB.out] at FU
     have PF := hide (show plainV (c :: r) = .error (if B = false then 3 else 40) by
      rw [PV.out, if_neg h32, if_neg hz, hB.out]; cases B <;> rfl)
     clear hz
     cases B
     · have PF := hide (show plainV (c :: r) = .error 3 from PF.out)
       go_enter Tryz.func180, Tryz.ntmps180
       go_wp2_with fail
       go_quiet (fail)
       go_wp2_with fail
       refine (CN.out _ (HT.out.old (Old.drewN (Old.refl _) _))).mono ?_
       rw [hzd]
       rintro e w1 ⟨⟨rr, rfl⟩, o1⟩
       have O1 := hide (Old.trans (Old.drewN (Old.refl w) _) o1)
       clear o1
       go_wp2_with fail
       refine (FU.out _ (HT.out.old O1.out)).mono ?_
       rintro e w2 ⟨rfl, o2⟩
       have O2 := hide (Old.trans O1.out o2)
       clear o2
       go_wp2_with fail
       refine (CF.out 3 (by decide) PF.out _ (H.out.old O2.out) ((One.refl _ _).old O2.out)).mono ?_
       rintro e w3 ⟨rfl, r3, o3⟩
       have R3 := hide r3
       have O3 := hide o3
       clear r3 o3
       go_wp2_with fail
       go_ret
       exact ⟨by rw [(EF.out 3 (by decide) PF.out).1]; rfl, R3.out, O3.out⟩
     · have PF := hide (show plainV (c :: r) = .error 40 from PF.out)
       go_enter Tryz.func180, Tryz.ntmps180
       go_wp2_with fail
       go_quiet (fail)
       go_wp2_with fail
       refine (CN.out _ (HT.out.old (Old.drewN (Old.refl _) _))).mono ?_
       rw [hzd]
       rintro e w1 ⟨⟨rr, rfl⟩, o1⟩
       have O1 := hide (Old.trans (Old.drewN (Old.refl w) _) o1)
       clear o1
       go_wp2_with fail
       refine (FU.out _ (HT.out.old O1.out)).mono ?_
       rintro e w2 ⟨rfl, o2⟩
       have O2 := hide (Old.trans O1.out o2)
       clear o2
       go_wp2_with fail
       refine (CF.out 40 (by decide) PF.out _ (H.out.old O2.out) ((One.refl _ _).old O2.out)).mono ?_
       rintro e w3 ⟨rfl, r3, o3⟩
       have R3 := hide r3
       have O3 := hide o3
       clear r3 o3
       go_wp2_with fail
       go_ret
       exact ⟨by rw [(EF.out 40 (by decide) PF.out).1]; rfl, R3.out, O3.out⟩
end Go.Proofs.YthlfljmfggmfdaaGreatDoor
