/- A text that is shown, read byte by byte: plain laws. No program is named here. -/
import Derived.Test.YtmolmphbhdbcaaaDoorShowL
import Derived.Test.YtmolmphbhdbcaaaDoorDigits
import Derived.Test.YtmolmphbhdbcaaaDoorWorks8
import Derived.Test.YtmolmphbhdbcaaaDoorSeeds
import Derived.Test.YtmolmphbhdbcaaaDoorRQuo
/-! ### A text that is shown, read byte by byte: plain laws. No program is named here. -/
namespace Go.Proofs.YtmolmphbhdbcaaaDoor

/-- no byte below 32, no blank outside a literal; the text ends outside -/
def scan : Bool → List UInt8 → Bool
  | w, [] => !w
  | w, b :: l => if b.toNat < 32 ∨ (b = 32 ∧ w = false) then false else if b = 92 then (match l with | [] => !w | _ :: l' => scan w l') else if b = 34 then scan (!w) l else scan w l
theorem scan_cons (w : Bool) (b : UInt8) (l : List UInt8) : scan w (b :: l) = if b.toNat < 32 ∨ (b = 32 ∧ w = false) then false else if b = 92 then (match l with | [] => !w | _ :: l' => scan w l') else if b = 34 then scan (!w) l else scan w l := by
  rw [scan.eq_def]
theorem scan_plain {w : Bool} {b : UInt8} {l : List UInt8} (h1 : 33 ≤ b.toNat) (h2 : b ≠ 34) (h3 : b ≠ 92) : scan w (b :: l) = scan w l := by
  have h4 : b ≠ 32 := fun e => by subst e; exact absurd h1 (by decide)
  rw [scan_cons, if_neg (by rintro (h | h); omega; exact h4 h.1), if_neg h3, if_neg h2]
theorem scan_ins {b : UInt8} {l : List UInt8} (h1 : 32 ≤ b.toNat) (h2 : b ≠ 34) (h3 : b ≠ 92) : scan true (b :: l) = scan true l := by
  rw [scan_cons, if_neg (by rintro (h | h); omega; exact absurd h.2 (by decide)), if_neg h3, if_neg h2]
theorem scan_skip {w : Bool} {b : UInt8} {l : List UInt8} : scan w (92 :: b :: l) = scan w l := by
  rw [scan_cons, if_neg (by rintro (h | h); exact absurd h (by decide); exact absurd h.1 (by decide)), if_pos rfl]
theorem scan_quote {w : Bool} {l : List UInt8} : scan w (34 :: l) = scan (!w) l := by
  rw [scan_cons, if_neg (by rintro (h | h); exact absurd h (by decide); exact absurd h.1 (by decide)), if_neg (by decide), if_pos rfl]
theorem scan_plains {w : Bool} : ∀ {a l : List UInt8}, (∀ b ∈ a, 33 ≤ b.toNat ∧ b ≠ 34 ∧ b ≠ 92) → scan w (a ++ l) = scan w l
  | [], _, _ => rfl
  | b :: a, l, h => by
    have hb := h b (by simp)
    rw [List.cons_append, scan_plain hb.1 hb.2.1 hb.2.2, scan_plains fun x hx => h x (by simp [hx])]
theorem hexB_plain {k : Nat} (h : k < 16) : 33 ≤ (hexB k).toNat ∧ hexB k ≠ 34 ∧ hexB k ≠ 92 := by
  have key : ∀ k : Fin 16, 33 ≤ (hexB k.val).toNat ∧ hexB k.val ≠ 34 ∧ hexB k.val ≠ 92 := by decide +kernel
  exact key ⟨k, h⟩
theorem scan_esc (b : UInt8) (l : List UInt8) : scan true (esc1 b ++ l) = scan true l := by
  unfold esc1
  split
  · exact scan_skip
  rename_i h1
  split
  · exact scan_skip
  split
  · exact scan_skip
  split
  · exact scan_skip
  split
  · exact scan_skip
  split
  · exact scan_skip
  split
  · rename_i h7
    simp only [List.cons_append, List.nil_append]
    rw [scan_skip, scan_plain (by decide) (by decide) (by decide), scan_plain (by decide) (by decide) (by decide)]
    have a1 := hexB_plain (k := b.toNat / 16) (by omega)
    have a2 := hexB_plain (k := b.toNat % 16) (by omega)
    rw [scan_plain a1.1 a1.2.1 a1.2.2, scan_plain a2.1 a2.2.1 a2.2.2]
  · rename_i h7
    simp only [not_or] at h1
    exact scan_ins (by omega) h1.1 h1.2
theorem scan_escL : ∀ (a l : List UInt8), scan true (escL a ++ l) = scan true l
  | [], _ => rfl
  | b :: a, l => by
    rw [show escL (b :: a) = esc1 b ++ escL a by simp [escL], List.append_assoc, scan_esc, scan_escL a l]
theorem scan_lit (s : ByteArray) (l : List UInt8) : scan false (quoteL s ++ l) = scan false l := by
  unfold quoteL
  rw [List.cons_append, scan_quote, List.append_assoc]
  show scan true _ = _
  rw [scan_escL, List.cons_append, scan_quote]
  rfl
theorem digit_plain {k : Nat} (h : k < 10) : 33 ≤ (UInt8.ofNat (48 + k)).toNat ∧ UInt8.ofNat (48 + k) ≠ 34 ∧ UInt8.ofNat (48 + k) ≠ 92 := by
  have key : ∀ k : Fin 10, 33 ≤ (UInt8.ofNat (48 + k.val)).toNat ∧ UInt8.ofNat (48 + k.val) ≠ 34 ∧ UInt8.ofNat (48 + k.val) ≠ 92 := by decide +kernel
  exact key ⟨k, h⟩
theorem decD_plain : ∀ (u : Nat), ∀ b ∈ decD u, 33 ≤ b.toNat ∧ b ≠ 34 ∧ b ≠ 92 := by
  intro u
  induction u using Nat.strongRecOn with
  | ind u ih =>
    intro b hb
    by_cases h : u = 0
    · subst h
      simp [decD] at hb
    · rw [decD_step h, List.mem_append] at hb
      rcases hb with hb | hb
      · exact ih (u / 10) (by omega) b hb
      · rw [List.mem_singleton] at hb
        subst hb
        exact digit_plain (by omega)
theorem itoa_plain (n : Int) : ∀ b ∈ Lib.itoa n, 33 ≤ b.toNat ∧ b ≠ 34 ∧ b ≠ 92 := by
  intro b hb
  unfold Lib.itoa at hb
  split at hb
  · rcases List.mem_cons.1 hb with rfl | hb
    · decide
    · have e : decD n.natAbs = Lib.decDigits n.natAbs := by unfold decD; rw [if_neg (by omega)]
      rw [← e] at hb
      exact decD_plain _ b hb
  · by_cases h0 : n.toNat = 0
    · rw [h0, Lib.decDigits_one (by omega), List.mem_singleton] at hb
      subst hb
      exact digit_plain (by omega)
    · have e : decD n.toNat = Lib.decDigits n.toNat := by unfold decD; rw [if_neg h0]
      rw [← e] at hb
      exact decD_plain _ b hb
theorem scan_show : (∀ (j : J) (r : List UInt8), scan false (j.show ++ r) = scan false r) ∧ ∀ (l : List J) (o f : Bool) (r : List UInt8), scan false (J.shows o f l ++ r) = scan false r := by
  refine J.both ?_ ?_ ?_
  · intro h l ih r
    simp only [J.show]
    repeat' split
    · exact scan_plains (by decide)
    · exact scan_plains (by decide)
    · exact scan_plains (by decide)
    · exact scan_plains (itoa_plain _)
    · exact scan_lit _ _
    · rw [List.cons_append, scan_plain (by decide) (by decide) (by decide), List.append_assoc, ih, List.cons_append, scan_plain (by decide) (by decide) (by decide), List.nil_append]
    · rw [List.cons_append, scan_plain (by decide) (by decide) (by decide), List.append_assoc, ih, List.cons_append, scan_plain (by decide) (by decide) (by decide), List.nil_append]
  · intro o f r
    rw [shows_nil]
    rfl
  · intro j l h1 h2 o f r
    rw [shows_cons, List.append_assoc]
    unfold partShow
    rw [List.append_assoc, List.append_assoc]
    have hc : ∀ x, scan false ((if f then [] else [44]) ++ x) = scan false x := by
      intro x
      split
      · rfl
      · exact scan_plains (by decide)
    rw [hc]
    have hk : ∀ x, scan false ((if o then quoteL j.key ++ [58] else []) ++ x) = scan false x := by
      intro x
      split
      · rw [List.append_assoc, scan_lit]
        exact scan_plains (by decide)
      · rfl
    rw [hk, h1, h2]
theorem show_scan (j : J) : scan false j.show = true := by
  have h := scan_show.1 j []
  rw [List.append_nil] at h
  rw [h]
  rfl
end Go.Proofs.YtmolmphbhdbcaaaDoor

/-! ### JshowPlain: the walk. -/
namespace Go.Proofs.YtmolmphbhdbcaaaDoor
open Go.RowKit

theorem tiny_fine {t : List Nd} (h : Tiny t) (hl : t.length ≤ 301) : Fine 60 t where
  every := fun x hx => by have := h x hx; omega
  small := by omega
  room := by
    have h1 := Nat.mul_le_mul_right (12 * 60 + 32) hl
    have h2 := Nat.mul_le_mul hl h1
    omega

set_option maxRecDepth 100000 in
set_option maxHeartbeats 4000000 in
theorem jplain_walk (u : Value) (l : List Int) (w : World) (h : NumsIs w u l) (hT : Tabs w) (hP : PowTab w) :
    Calls Tryd.prog 6 #[.agg #[u]] w fun e w' => e = .returned (.bool true) ∧ Old w w' := by
  have CD := hide (fun (o : Obj) => drawn_run u l (w.alloc o) (h.old (Old.alloc (Old.refl _) _)) (hT.old (Old.alloc (Old.refl _) _)))
  have HT := hide hT
  have HP := hide hP
  clear h hT hP
  go_enter Tryd.func6, Tryd.ntmps6
  go_wp2_with fail
  refine (CD.out _).mono ?_
  rintro e w1 ⟨v, t, j, rfl, n1, m1, x1, d1, l1, o1⟩
  obtain ⟨P, hP⟩ : ∃ P, Hid (t.length = P) := ⟨_, hide rfl⟩
  obtain ⟨A1, c1, rfl, _, _⟩ := nodes_form n1 hP.out
  have N1 := hide (SlT.sl n1)
  have HB := hide (Old.trans (Old.alloc (Old.refl w) (.cells #[u] 40)) o1)
  have F1 := hide (tiny_fine x1 l1)
  have hlen : j.show.length ≤ 1048576 := by
    have h1 := show_room.1 j (by rw [← m1.1.2.2]; exact F1.out.nums)
    have h2 := room_le (C := 60) (t := t) fun x hx => ⟨(F1.out.every x hx).1, (F1.out.every x hx).2.1⟩
    have h3 := Nat.mul_le_mul_right (12 * 60 + 32) l1
    rw [← m1.1.2.2] at h1
    omega
  have hshow : ShowT t j.show 0 := .inr ⟨j, m1, .inl ⟨hlen, rfl, rfl⟩⟩
  have HSH := hide hshow
  obtain ⟨sh, hsh⟩ : ∃ sh, Hid (j.show = sh) := ⟨_, hide rfl⟩
  have hsc := show_scan j
  have hne := show_ne j
  rw [hsh.out] at hlen
  rw [hsh.out] at hsc hne
  rw [hsh.out] at HSH
  obtain ⟨X, hX⟩ : ∃ X : ByteArray, Hid (⟨sh.toArray⟩ = X) := ⟨_, hide rfl⟩
  have hXs : X.size = sh.length := by rw [← hX.out]; simp [ByteArray.size]
  have hXe : X.toList.isEmpty = false := by
    rw [← hX.out, ByteArray.toList_mk]
    cases sh with
    | nil => exact absurd rfl hne
    | cons _ _ => rfl
  have HSCAN := hide hsc
  clear n1 m1 x1 d1 l1 o1 hshow hsc hne CD
  go_wp2_with fail
  refine (show_run 60 _ t sh 0 _ N1.out F1.out (HT.out.old HB.out) (PowTab.old HP.out HB.out) HSH.out).mono ?_
  unfold strE
  rintro e w2 ⟨rfl, o2⟩
  rw [hX.out]
  replace HB := hide (Old.trans HB.out o2)
  clear o2 N1
  go_wp2_with fail
  go_loopw [6, 7] (fun bv iv wr => ∃ (b : Bool) (k : Nat), bv = .bool b ∧ iv = .int .i64 k ∧ k ≤ X.size + 1 ∧ Hid (scan b (sh.drop k) = true) ∧ Hid (Old w wr)) (fun _ iv _ => X.size + 1 - (intOf iv).toNat)
  case atStart => exact ⟨false, 0, rfl, rfl, by omega, hide (by rw [List.drop_zero]; exact HSCAN.out), HB⟩
  case round =>
    obtain ⟨b, k, rfl, rfl, hk, HS, HO⟩ := hrel
    by_cases hlt : k < X.size
    · have gk := get_at X hlt
      obtain ⟨bb, hb⟩ : ∃ b, Hid (X.get! k = b) := ⟨_, hide rfl⟩
      rw [hb.out] at gk
      have hdrop : sh.drop k = bb :: sh.drop (k + 1) := by
        rw [List.drop_eq_getElem_cons (by omega)]
        congr 1
        rw [← gk]
        have hall : ∀ (Y : ByteArray) (_ : (⟨sh.toArray⟩ : ByteArray) = Y) (h1 : k < Y.size) (h2 : k < sh.length), Y[k] = sh[k] := by
          rintro _ rfl _ _
          rfl
        exact (hall X hX.out hlt (by omega)).symm
      have hsc := HS.out
      rw [hdrop, scan_cons] at hsc
      have hno : ¬ (bb.toNat < 32 ∨ (bb = 32 ∧ b = false)) := fun e => by rw [if_pos e] at hsc; cases hsc
      rw [if_neg hno] at hsc
      have HSC := hide hsc
      have n32 : ¬ (bb.toNat : Int) < 32 := fun e => hno (.inl (by omega))
      clear hsc hdrop HS
      cases b
      · have e32 : ¬ (bb.toNat : Int) = 32 := fun e => hno (.inr ⟨by apply UInt8.toNat_inj.1; rw [show ((32 : UInt8).toNat) = 32 from rfl]; omega, rfl⟩)
        by_cases e92 : (bb.toNat : Int) = 92
        · have b92 : bb = 92 := by apply UInt8.toNat_inj.1; rw [show ((92 : UInt8).toNat) = 92 from rfl]; omega
          have HS2 := hide (show scan false (sh.drop (k + 1 + 1)) = true by
            have h1 := HSC.out
            rw [if_pos b92] at h1
            have e : sh.drop (k + 1 + 1) = (sh.drop (k + 1)).tail := by rw [← List.drop_one, List.drop_drop]
            rw [e]
            cases hd : sh.drop (k + 1) with
            | nil => rw [hd] at h1; first | rfl | (simp at h1)
            | cons x y => rw [hd] at h1; exact h1)
          clear hno HSC b92
          go_wp2_with fail
          go_roundw
          case rel => exact ⟨false, k + 1 + 1, rfl, by go_num, by omega, HS2, HO⟩
          case measure => simp [intOf]; omega
        · by_cases e34 : (bb.toNat : Int) = 34
          · have b34 : bb = 34 := by apply UInt8.toNat_inj.1; rw [show ((34 : UInt8).toNat) = 34 from rfl]; omega
            have HS2 := hide (show scan true (sh.drop (k + 1)) = true by
              have h1 := HSC.out
              rwa [if_neg (fun e => by subst e; exact e92 rfl), if_pos b34] at h1)
            clear hno HSC b34
            go_wp2_with fail
            go_roundw
            case rel => exact ⟨true, k + 1, rfl, by go_num, by omega, HS2, HO⟩
            case measure => simp [intOf]; omega
          · have HS2 := hide (show scan false (sh.drop (k + 1)) = true by
              have h1 := HSC.out
              rwa [if_neg (fun e => by subst e; exact e92 rfl), if_neg (fun e => by subst e; exact e34 rfl)] at h1)
            clear hno HSC
            go_wp2_with fail
            go_roundw
            case rel => exact ⟨false, k + 1, rfl, by go_num, by omega, HS2, HO⟩
            case measure => simp [intOf]; omega
      · by_cases e32 : (bb.toNat : Int) = 32
        · have e92 : ¬ (bb.toNat : Int) = 92 := by omega
          have e34 : ¬ (bb.toNat : Int) = 34 := by omega
          have HS2 := hide (show scan true (sh.drop (k + 1)) = true by
            have h1 := HSC.out
            rwa [if_neg (fun e => by subst e; exact e92 rfl), if_neg (fun e => by subst e; exact e34 rfl)] at h1)
          clear hno HSC
          go_wp2_with fail
          go_roundw
          case rel => exact ⟨true, k + 1, rfl, by go_num, by omega, HS2, HO⟩
          case measure => simp [intOf]; omega
        · by_cases e92 : (bb.toNat : Int) = 92
          · have b92 : bb = 92 := by apply UInt8.toNat_inj.1; rw [show ((92 : UInt8).toNat) = 92 from rfl]; omega
            have HS2 := hide (show scan true (sh.drop (k + 1 + 1)) = true by
              have h1 := HSC.out
              rw [if_pos b92] at h1
              have e : sh.drop (k + 1 + 1) = (sh.drop (k + 1)).tail := by rw [← List.drop_one, List.drop_drop]
              rw [e]
              cases hd : sh.drop (k + 1) with
              | nil => rw [hd] at h1; first | rfl | (simp at h1)
              | cons x y => rw [hd] at h1; exact h1)
            clear hno HSC b92
            go_wp2_with fail
            go_roundw
            case rel => exact ⟨true, k + 1 + 1, rfl, by go_num, by omega, HS2, HO⟩
            case measure => simp [intOf]; omega
          · by_cases e34 : (bb.toNat : Int) = 34
            · have b34 : bb = 34 := by apply UInt8.toNat_inj.1; rw [show ((34 : UInt8).toNat) = 34 from rfl]; omega
              have HS2 := hide (show scan false (sh.drop (k + 1)) = true by
                have h1 := HSC.out
                rwa [if_neg (fun e => by subst e; exact e92 rfl), if_pos b34] at h1)
              clear hno HSC b34
              go_wp2_with fail
              go_roundw
              case rel => exact ⟨false, k + 1, rfl, by go_num, by omega, HS2, HO⟩
              case measure => simp [intOf]; omega
            · have HS2 := hide (show scan true (sh.drop (k + 1)) = true by
                have h1 := HSC.out
                rwa [if_neg (fun e => by subst e; exact e92 rfl), if_neg (fun e => by subst e; exact e34 rfl)] at h1)
              clear hno HSC
              go_wp2_with fail
              go_roundw
              case rel => exact ⟨true, k + 1, rfl, by go_num, by omega, HS2, HO⟩
              case measure => simp [intOf]; omega
    · have hb0 : b = false := by
        have h1 := HS.out
        rw [List.drop_eq_nil_of_le (by omega)] at h1
        cases b
        · rfl
        · simp [scan] at h1
      subst hb0
      have hlt2 : ¬ (k : Int) < (X.size : Int) := by omega
      go_wp2_with fail
      refine (works_run _ (HT.out.old HO.out) (PowTab.old HP.out HO.out)).mono ?_
      rintro e w5 ⟨rfl, o5⟩
      have HF := hide (Old.trans HO.out o5)
      clear o5
      go_wp2_with fail
      go_ret
      exact ⟨by first | rfl | simp, HF.out⟩
end Go.Proofs.YtmolmphbhdbcaaaDoor
