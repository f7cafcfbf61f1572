/- The document's reader of a text: word, begins, literal, digits. -/
import Derived.Test.YtdlcibbbebhcoaaGreatDoorRr2
import Derived.Test.YtdlcibbbebhcoaaGreatDoorJr6
import Derived.Deep.RegionHeld
import Derived.Deep.QuietTactic
import Derived.BigQuiet
/-! ### The document's reader of a text: word, begins, literal, digits. -/
namespace Go.Proofs.YtdlcibbbebhcoaaGreatDoor
open Go.RowKit

theorem wordX_take (q : ByteArray) (X : RX) (k : Nat) (hk : k < q.size) (c : UInt8) (hc : q[k]'hk = c) : wordX (q.data.toList.take (k + 1)) X = mustX c (wordX (q.data.toList.take k) X) := by
  have hl : k < q.data.toList.length := by rw [list_size]; exact hk
  rw [List.take_succ_eq_append_getElem hl]
  unfold wordX
  rw [List.foldl_append]
  subst hc
  rfl
set_option maxRecDepth 100000 in
set_option maxHeartbeats 1000000 in
theorem rword_run (base rb : Nat) (s : ByteArray) (out : List Nd) (X : RX) (w : World) (h : RS base rb s out X w) (q : ByteArray) (k0 : Int) (hs : s.size ≤ 1073741824) (hq : q.size ≤ 100) :
    Calls Tryz.prog 41 #[.pointer (some ⟨rb, 0, none⟩), .string q, .int .i64 k0] w fun x w' => x = .returned (.int .i64 k0) ∧ RS base rb s out (wordX q.data.toList X) w' ∧ Bel base rb w w' := by
  have HS0 := hide h
  have hbw := hide h.bw
  clear h
  go_enter Tryz.func41, Tryz.ntmps41
  go_wp2_with fail
  go_loopw [7] (fun i wr => ∃ k : Nat, i = .int .i64 k ∧ k ≤ q.size ∧ Hid (RS base rb s out (wordX (q.data.toList.take k) X) wr) ∧ Hid (Bel base rb w wr)) (fun i _ => q.size - (intOf i).toNat)
  case atStart => exact ⟨0, rfl, by omega, HS0, hide (Bel.refl _ _ _)⟩
  case round =>
    obtain ⟨k, rfl, hk, HS, HB⟩ := hrel
    by_cases hlt : k < q.size
    · obtain ⟨c, hc⟩ : ∃ c, q[k]'hlt = c := ⟨_, rfl⟩
      have HN := hide (wordX_take q X k hlt c hc)
      have CM := hide (rmust_run base rb s out _ wr HS.out c hs)
      go_wp2_with fail
      refine CM.out.mono ?_
      rintro x w1 ⟨rfl, s1, b1⟩
      have S1 := hide (show RS base rb s out (wordX (q.data.toList.take (k + 1)) X) w1 by rw [HN.out]; exact s1)
      have B1 := hide (HB.out.trans b1)
      clear s1 b1
      go_wp2_with fail
      go_roundw
      case rel => exact ⟨k + 1, by go_num, by omega, S1, B1⟩
      case measure => simp [intOf]; omega
    · have FIN := hide (show RS base rb s out (wordX q.data.toList X) wr by
        have := HS.out
        rwa [List.take_of_length_le (by rw [list_size]; omega)] at this)
      go_wp2_with fail
      go_ret
      exact ⟨rfl, FIN.out, HB.out⟩
/-- a byte with which a value may begin, by its number -/
def begN (x : Nat) : Bool := x == 110 || x == 102 || x == 116 || x == 34 || x == 91 || x == 123 || x == 45 || (decide (48 ≤ x) && decide (x ≤ 57))
theorem begB_N (c : UInt8) : begB c = begN c.toNat := by
  unfold begB begN isDig
  have h : ∀ k : UInt8, (c == k) = (c.toNat == k.toNat) := fun k => by
    rw [Bool.eq_iff_iff, beq_iff_eq, beq_iff_eq]
    exact ⟨fun e => by rw [e], fun e => UInt8.toNat_inj.1 e⟩
  rw [h 110, h 102, h 116, h 34, h 91, h 123, h 45]
  rfl
set_option maxRecDepth 100000 in
set_option maxHeartbeats 1000000 in
theorem rbeg_run (c : UInt8) (w : World) : Calls Tryz.prog 40 #[.int .u8 (c.toNat : Int)] w fun e w' => e = .returned (.bool (begB c)) ∧ w' = w := by
  rw [begB_N]
  obtain ⟨x, hx⟩ : ∃ x : Nat, c.toNat = x := ⟨_, rfl⟩
  rw [hx]
  clear hx
  obtain ⟨B, hB⟩ : ∃ B, Hid (begN x = B) := ⟨_, hide rfl⟩
  rw [hB.out]
  have hy : ∀ y : Nat, x = y → begN y = B := fun y e => by rw [← e]; exact hB.out
  have HY := hide hy
  clear hy
  by_cases h110 : x = 110
  · have FIN := hide (HY.out _ h110)
    subst h110
    go_enter Tryz.func40, Tryz.ntmps40
    go_wp2_with fail
    go_ret
    exact ⟨by rw [← FIN.out]; rfl, rfl⟩
  have b110 : ((x : Int) == 110) = false := by simp; omega
  by_cases h102 : x = 102
  · have FIN := hide (HY.out _ h102)
    subst h102
    go_enter Tryz.func40, Tryz.ntmps40
    go_wp2_with fail
    go_ret
    exact ⟨by rw [← FIN.out]; rfl, rfl⟩
  have b102 : ((x : Int) == 102) = false := by simp; omega
  by_cases h116 : x = 116
  · have FIN := hide (HY.out _ h116)
    subst h116
    go_enter Tryz.func40, Tryz.ntmps40
    go_wp2_with fail
    go_ret
    exact ⟨by rw [← FIN.out]; rfl, rfl⟩
  have b116 : ((x : Int) == 116) = false := by simp; omega
  by_cases h34 : x = 34
  · have FIN := hide (HY.out _ h34)
    subst h34
    go_enter Tryz.func40, Tryz.ntmps40
    go_wp2_with fail
    go_ret
    exact ⟨by rw [← FIN.out]; rfl, rfl⟩
  have b34 : ((x : Int) == 34) = false := by simp; omega
  by_cases h91 : x = 91
  · have FIN := hide (HY.out _ h91)
    subst h91
    go_enter Tryz.func40, Tryz.ntmps40
    go_wp2_with fail
    go_ret
    exact ⟨by rw [← FIN.out]; rfl, rfl⟩
  have b91 : ((x : Int) == 91) = false := by simp; omega
  by_cases h123 : x = 123
  · have FIN := hide (HY.out _ h123)
    subst h123
    go_enter Tryz.func40, Tryz.ntmps40
    go_wp2_with fail
    go_ret
    exact ⟨by rw [← FIN.out]; rfl, rfl⟩
  have b123 : ((x : Int) == 123) = false := by simp; omega
  by_cases h45 : x = 45
  · have FIN := hide (HY.out _ h45)
    subst h45
    go_enter Tryz.func40, Tryz.ntmps40
    go_wp2_with fail
    go_ret
    exact ⟨by rw [← FIN.out]; rfl, rfl⟩
  have b45 : ((x : Int) == 45) = false := by simp; omega
  clear h110 h102 h116 h34 h91 h123 h45
  by_cases h48 : 48 ≤ x
  · have d1 : (48 : Int) ≤ (x : Int) := by omega
    have d2 : decide ((48 : Int) ≤ (x : Int)) = true := decide_eq_true d1
    by_cases h57 : x ≤ 57
    · have e1 : (x : Int) ≤ 57 := by omega
      have e2 : decide ((x : Int) ≤ 57) = true := decide_eq_true e1
      have FIN := hide (show B = true by
        rw [← hB.out]
        unfold begN
        rw [decide_eq_true h48, decide_eq_true h57]
        simp)
      clear h48 h57 hB HY
      go_enter Tryz.func40, Tryz.ntmps40
      go_wp2_with fail
      go_ret
      exact ⟨by rw [FIN.out]; rfl, rfl⟩
    · have e1 : ¬ (x : Int) ≤ 57 := by omega
      have e2 : decide ((x : Int) ≤ 57) = false := decide_eq_false e1
      have FIN := hide (show B = false by
        rw [← hB.out]
        unfold begN
        rw [decide_eq_false h57]
        simp
        simp at b110 b102 b116 b34 b91 b123 b45
        omega)
      clear h48 h57 hB HY
      go_enter Tryz.func40, Tryz.ntmps40
      go_wp2_with fail
      go_ret
      exact ⟨by rw [FIN.out]; rfl, rfl⟩
  · have d1 : ¬ (48 : Int) ≤ (x : Int) := by omega
    have d2 : decide ((48 : Int) ≤ (x : Int)) = false := decide_eq_false d1
    have FIN := hide (show B = false by
      rw [← hB.out]
      unfold begN
      rw [decide_eq_false h48]
      simp
      simp at b110 b102 b116 b34 b91 b123 b45
      omega)
    clear h48 hB HY
    go_enter Tryz.func40, Tryz.ntmps40
    go_wp2_with fail
    go_ret
    exact ⟨by rw [FIN.out]; rfl, rfl⟩
def litT : RX → List UInt8
  | .ok l => (match litV l with | .ok (t, _) => t | .error _ => [])
  | .error _ => []
def litX : RX → RX
  | .ok l => (match litV l with | .ok (_, r) => .ok r | .error b => .error b)
  | .error b => .error b
theorem lit_fail {X : RX} (h : isX 34 X = false) : litX X = failX (restX X) 70 X ∧ litT X = [] := by
  cases X with
  | error b => exact ⟨rfl, rfl⟩
  | ok l =>
    cases l with
    | nil => exact ⟨rfl, rfl⟩
    | cons d r =>
      have hd : d ≠ 34 := of_decide_eq_false h
      have hl : litV (d :: r) = .error (d :: r, 70) := by simp only [litV]; rw [if_pos hd]
      exact ⟨by simp only [litX, hl, failX, restX], by simp only [litT, hl]⟩
theorem lit_quote {r : List UInt8} : litV (34 :: r) = match unqV (34 :: r) with | .error e => .error (34 :: r, e) | .ok x => .ok x := by
  simp only [litV]
  rw [if_neg (by decide)]
  cases unqV (34 :: r) <;> rfl
set_option maxRecDepth 100000 in
set_option maxHeartbeats 1000000 in
theorem rlit_run (base rb : Nat) (s : ByteArray) (out : List Nd) (X : RX) (w : World) (h : RS base rb s out X w) (hs : s.size ≤ 1073741824) :
    Calls Tryz.prog 42 #[.pointer (some ⟨rb, 0, none⟩)] w fun x w' => x = .returned (.string (bT (litT X))) ∧ RS base rb s out (litX X) w' ∧ Bel base rb w w' := by
  have HS := hide h
  have hbw := hide h.bw
  obtain ⟨B, hB⟩ : ∃ B, isX 34 X = B := ⟨_, rfl⟩
  have CI := hide (ris_run base rb s out X w h 34 B hB)
  clear h
  cases B with
  | false =>
    have HF := hide (lit_fail hB)
    clear hB
    go_enter Tryz.func42, Tryz.ntmps42
    go_wp2_with fail
    refine CI.out.mono ?_
    rintro x w1 ⟨rfl, o1⟩
    have O1 := hide o1
    have S1 := hide (HS.out.old o1)
    obtain ⟨n, wh, e, hR, _, hJ⟩ := S1.out.open_
    obtain ⟨ov, ⟨_, x1, _, _, _⟩, _, _⟩ := hR.cells
    have CF := hide (rdfail_run base rb s out X w1 S1.out (n : Int) 70 (restX X) (by decide) (fun l e => by have := (hJ l e).1.len; rw [e]; simp only [restX]; omega) S1.out.rest)
    clear o1 hR hJ
    go_wp2_with fail
    refine CF.out.mono ?_
    rintro x w2 ⟨rfl, s2, b2⟩
    have S2 := hide s2
    have B2 := hide ((Bel.ofOld O1.out hbw.out).trans b2)
    clear s2 b2
    go_wp2_with fail
    go_ret
    exact ⟨by rw [HF.out.2]; rfl, by rw [HF.out.1]; exact S2.out, B2.out⟩
  | true =>
    obtain ⟨r0, rfl⟩ := isX_head hB
    clear hB
    have HL := hide (lit_quote (r := r0))
    obtain ⟨n, hA, hR0⟩ := HS.out
    have hn := hA.le
    have hni : (n : Int) ≤ (s.size : Int) := by omega
    obtain ⟨u, hu⟩ : ∃ u, Hid (s.extract n s.size = u) := ⟨_, hide rfl⟩
    have hus : u.size = s.size - n := by rw [← hu.out, ByteArray.size_extract]; omega
    have hul : u.data.toList = 34 :: r0 := by rw [← hu.out]; exact (ext_list s n).trans hA.rest
    have HA := hide hA
    have CU := hide (fun w1 => runq_run u w1 (by omega))
    rw [hul, hus] at CU
    have HAD := hide (fun l' (h : l' <:+ 34 :: r0) => hA.suf h)
    have hrl : (34 :: r0).length = s.size - n := by have := hA.len; omega
    have hbw1 := hbw.out
    clear hA hR0 hul
    cases hv : unqV (34 :: r0) with
    | error c =>
      rw [hv, unqE_err] at CU
      rw [hv] at HL
      have LT := hide (show litT (.ok (34 :: r0)) = [] by simp only [litT, HL.out])
      have LX := hide (show litX (.ok (34 :: r0)) = failX (34 :: r0) c (.ok (34 :: r0)) by simp only [litX, HL.out, failX])
      have hc0 : c ≠ 0 := by have := unqV_err hv; omega
      have hcb : (c != 0) = true := by simp [hc0]
      have HC0 := hide hc0
      clear hv HAD hc0
      go_enter Tryz.func42, Tryz.ntmps42
      go_wp2_with fail
      refine CI.out.mono ?_
      rintro x w1 ⟨rfl, o1⟩
      have O1 := hide o1
      obtain ⟨n', hA1, hR⟩ := HS.out.old o1
      obtain rfl : n' = n := by have := hA1.len; omega
      have S1 := hide (HS.out.old o1)
      obtain ⟨ov, ⟨x0, x1, _, _, _⟩, _, _⟩ := hR.cells
      have CP := hide (fun w' (o : Old w1 w') => (CU.out w').mono fun e w'' (h : e = .returned (.tuple #[.string ⟨#[]⟩, .int .i64 0, .int .i64 c]) ∧ Old w' w'') => (show e = .returned (.tuple #[.string ⟨#[]⟩, .int .i64 0, .int .i64 c]) ∧ Old w1 w'' from ⟨h.1, Old.trans o h.2⟩))
      have y0 : ∀ w', Old w1 w' → w'.cell? ⟨rb, 0, none⟩ = some (.string s) := fun w' o => o.cell x0
      have y1 : ∀ w', Old w1 w' → w'.cell? ⟨rb, 1, none⟩ = some (.int .i64 (n' : Int)) := fun w' o => o.cell x1
      have hnn : (n' : Int) = (s.size : Int) - ((34 :: r0).length : Int) := by omega
      have HNN := hide hnn
      have hll := hide (show (34 :: r0).length ≤ s.size by omega)
      rw [← hu.out] at CP
      clear o1 hR hA1 CI CU x0 x1 hnn hrl hus hbw1
      go_wp2_with fail
      go_region_held (fun w' => Old w1 w')
        (first | assumption | (exact Old.drew (Old.refl _)) | (exact Old.drew (by assumption)))
        (first | (go_at_call 53; (with_reducible refine (CP.out _ (by assumption)).mono ?_); rintro y w30 ⟨rfl, o30⟩))
      all_goals
        have S30 := hide (HS.out.old (Old.trans O1.out o30))
        have O30 := hide (Old.trans O1.out o30)
        have z1 : w30.cell? ⟨rb, 1, none⟩ = some (.int .i64 (n' : Int)) := y1 _ o30
        have CF := hide (rdfail_run base rb s out _ w30 S30.out (n' : Int) c (34 :: r0) HC0.out (fun l e => HNN.out) hll.out)
        clear o30 y0 y1 CP
        go_wp2_with fail
        refine CF.out.mono ?_
        rintro y w8 ⟨rfl, s8, b8⟩
        have S8 := hide s8
        have B8 := hide ((Bel.ofOld O30.out hbw.out).trans b8)
        clear s8 b8
        go_wp2_with fail
        go_ret
        exact ⟨by rw [LT.out]; rfl, by rw [LX.out]; exact S8.out, B8.out⟩
    | ok y =>
      obtain ⟨t, r⟩ := y
      rw [hv, unqE_ok] at CU
      rw [hv] at HL
      have LT := hide (show litT (.ok (34 :: r0)) = t by simp only [litT, HL.out])
      have LX := hide (show litX (.ok (34 :: r0)) = .ok r by simp only [litX, HL.out])
      obtain ⟨k, hk⟩ : ∃ k : Nat, s.size - n - r.length = k := ⟨_, rfl⟩
      rw [hk] at CU
      have NX := hide (show JAt s (n + k) r by
        have h := HAD.out r (unqV_suf hv)
        rw [hrl, hk] at h
        exact h)
      have hnk := NX.out.le
      clear hv HAD hk
      go_enter Tryz.func42, Tryz.ntmps42
      go_wp2_with fail
      refine CI.out.mono ?_
      rintro x w1 ⟨rfl, o1⟩
      have O1 := hide o1
      obtain ⟨n', hA1, hR⟩ := HS.out.old o1
      obtain rfl : n' = n := by have := hA1.len; omega
      have HR1 := hide hR
      obtain ⟨ov, ⟨x0, x1, _, _, _⟩, _, _⟩ := hR.cells
      have CP := hide (fun w' (o : Old w1 w') => (CU.out w').mono fun e w'' (h : e = .returned (.tuple #[.string (bT t), .int .i64 (k : Int), .int .i64 0]) ∧ Old w' w'') => (show e = .returned (.tuple #[.string (bT t), .int .i64 (k : Int), .int .i64 0]) ∧ Old w1 w'' from ⟨h.1, Old.trans o h.2⟩))
      have y0 : ∀ w', Old w1 w' → w'.cell? ⟨rb, 0, none⟩ = some (.string s) := fun w' o => o.cell x0
      have y1 : ∀ w', Old w1 w' → w'.cell? ⟨rb, 1, none⟩ = some (.int .i64 (n' : Int)) := fun w' o => o.cell x1
      rw [← hu.out] at CP
      clear o1 hR hA1 CI CU x0 x1 hrl hus hbw1
      go_wp2_with fail
      go_region_held (fun w' => Old w1 w')
        (first | assumption | (exact Old.drew (Old.refl _)) | (exact Old.drew (by assumption)))
        (first | (go_at_call 53; (with_reducible refine (CP.out _ (by assumption)).mono ?_); rintro y w30 ⟨rfl, o30⟩))
      all_goals
        have R30 := hide (HR1.out.old o30)
        have B30 := hide (Bel.ofOld (rb := rb) (Old.trans O1.out o30) hbw.out)
        have z1 : w30.cell? ⟨rb, 1, none⟩ = some (.int .i64 (n' : Int)) := y1 _ o30
        obtain ⟨_, _, hf, _⟩ := R30.out.cells
        have f30 := hf 1
        have KK := hide (show RS base rb s out (.ok r) (w30.setCell ⟨rb, 1, none⟩ (.int .i64 ((n' : Int) + (k : Int)))) from ⟨n' + k, NX.out, R30.out.setAt (n' + k) (by simp)⟩)
        have B9 := hide (B30.out.trans (R30.out.keepB 1 (.int .i64 ((n' : Int) + (k : Int))) (by decide)))
        clear o30 y0 y1 CP hf
        go_wp2_with fail
        go_ret
        exact ⟨by rw [LT.out]; rfl, by rw [LX.out]; exact KK.out, B9.out⟩
end Go.Proofs.YtdlcibbbebhcoaaGreatDoor

/-! ### The document's reader of a text: digits. -/
namespace Go.Proofs.YtdlcibbbebhcoaaGreatDoor
open Go.RowKit

theorem digsOf_len {c : UInt8} {r : List UInt8} (h : isDig c = true) : (digsOf (c :: r)).length = (digsOf r).length + 1 := by simp [digsOf, h]
set_option maxRecDepth 100000 in
set_option maxHeartbeats 1000000 in
theorem rdigits_run (base rb : Nat) (s : ByteArray) (out : List Nd) (l : List UInt8) (w : World) (h : RS base rb s out (.ok l) w) (hs : s.size ≤ 1073741824) :
    Calls Tryz.prog 54 #[.pointer (some ⟨rb, 0, none⟩)] w fun x w' => x = .returned (.int .i64 ((digsOf l).length : Int)) ∧ RS base rb s out (.ok (digsEnd l)) w' ∧ Bel base rb w w' := by
  have HS0 := hide h
  have hbw := hide h.bw
  obtain ⟨D, hD⟩ : ∃ D, Hid ((digsOf l).length = D) := ⟨_, hide rfl⟩
  obtain ⟨E, hE⟩ : ∃ E, Hid (digsEnd l = E) := ⟨_, hide rfl⟩
  have hDl : D ≤ s.size := by
    obtain ⟨n, hA, _⟩ := h
    have h1 := hA.len
    have : (digsOf l).length ≤ l.length := by
      clear hD hE HS0 hA h1 hbw
      induction l with
      | nil => exact Nat.le_refl _
      | cons c r ih =>
        simp only [digsOf]
        split
        · simp only [List.length_cons]; omega
        · simp
    rw [hD.out] at this
    omega
  rw [hD.out, hE.out]
  clear h
  go_enter Tryz.func54, Tryz.ntmps54
  go_wp2_with fail
  go_loopw [3] (fun i wr => ∃ (k : Nat) (q : List UInt8), i = .int .i64 k ∧ k ≤ D ∧ Hid (k + (digsOf q).length = D) ∧ Hid (digsEnd q = E) ∧ Hid (RS base rb s out (.ok q) wr) ∧ Hid (Bel base rb w wr)) (fun _ wr => jLeft rb s wr)
  case atStart => exact ⟨0, l, rfl, by omega, hide (by rw [Nat.zero_add]; exact hD.out), hE, HS0, hide (Bel.refl _ _ _)⟩
  case round =>
    clear hD hE HS0
    obtain ⟨k, q, rfl, hk, HD, HE, HS, HB⟩ := hrel
    obtain ⟨n, hA, hR⟩ := HS.out
    have HA := hide hA
    have HR := hide hR
    have hn := hA.le
    obtain ⟨ov, ⟨x0, x1, _, _, _⟩, _, _⟩ := hR.cells
    have y0 : ∀ p : Later wr, p.world.cell? ⟨rb, 0, none⟩ = some (.string s) := fun p => p.old.cell x0
    have y1 : ∀ p : Later wr, p.world.cell? ⟨rb, 1, none⟩ = some (.int .i64 (n : Int)) := fun p => p.old.cell x1
    have LF := hide hR.left
    have BO := hide (fun w2 (o2 : Old wr w2) => HB.out.trans (Bel.ofOld o2 (Nat.le_trans hbw.out HB.out.size)))
    clear hR
    have STOP : digsOf q = [] → digsEnd q = q → Hid (k = D ∧ ∀ w2, Old wr w2 → RS base rb s out (.ok E) w2) := fun h1 h2 => hide ⟨by
      have := HD.out
      rw [h1] at this
      exact this, fun w2 o2 => by
      rw [← HE.out, h2]
      exact HS.out.old o2⟩
    cases q with
    | nil =>
      have hk : n = s.size := by have := hA.len; simpa using this
      have hq : ¬ (n : Int) < (s.size : Int) := by omega
      have hqn : decide (n < s.size) = false := decide_eq_false (by omega)
      have EE := STOP rfl rfl
      clear hk STOP hA
      go_wp2_with fail
      refine region_later (by kernel_rfl) (by kernel_rfl) ?_
      repeat (go_big_quiet_step (fail))
      refine wpQuiet_nil ?_
      rintro w2 ⟨⟨_, o2⟩, rfl⟩
      have O2 := hide o2
      clear o2 y0 y1
      go_wp2_with fail
      go_ret
      exact ⟨by rw [← EE.out.1]; rfl, EE.out.2 w2 O2.out, BO.out w2 O2.out⟩
    | cons c r =>
      obtain ⟨b1, b2, b3⟩ := byte_at HA.out.rest
      have bx : s[n] = c := by rw [get_at s b1, b2]
      have hq : (n : Int) < (s.size : Int) := by omega
      have hqn : decide (n < s.size) = true := decide_eq_true b1
      have HN := hide HA.out.next
      clear b2 b3 hA
      cases hdg : isDig c with
      | true =>
        obtain ⟨g1, g2⟩ := isDig_yes hdg
        have g1' : (48 : Int) ≤ (c.toNat : Int) := by omega
        have g2' : (c.toNat : Int) ≤ 57 := by omega
        have d1 : decide ((48 : Int) ≤ (c.toNat : Int)) = true := decide_eq_true g1'
        have d2 : decide ((c.toNat : Int) ≤ 57) = true := decide_eq_true g2'
        have HD2 := hide (show k + 1 + (digsOf r).length = D by have := HD.out; rw [digsOf_len hdg] at this; omega)
        have HE2 := hide (show digsEnd r = E by rw [← HE.out, digsEnd_yes hdg])
        have hkD : k + 1 ≤ D := by have := HD2.out; omega
        have J2 := hide (fun w2 (o2 : Old wr w2) => (HR.out.old o2).setAt (n + 1) (z := (n : Int) + 1) (by simp))
        have B2 := hide (fun w2 (o2 : Old wr w2) => (BO.out w2 o2).trans ((HR.out.old o2).keepB 1 (.int .i64 ((n : Int) + 1)) (by decide)))
        have ML := hide (fun w2 (j : RR base rb s (n + 1) out 0 0 w2) => show jLeft rb s w2 < jLeft rb s wr by rw [j.left, LF.out]; omega)
        clear STOP g1 g2 hdg
        go_wp2_with fail
        refine region_later (by kernel_rfl) (by kernel_rfl) ?_
        repeat (go_big_quiet_step (fail))
        refine wpQuiet_nil ?_
        rintro w2 ⟨⟨_, o2⟩, rfl⟩
        have z1 : w2.cell? ⟨rb, 1, none⟩ = some (.int .i64 (n : Int)) := o2.cell x1
        have zf : w2.frozen? ⟨rb, 1, none⟩ = false := ((HR.out.old o2).cells.choose_spec.2.1) 1
        have JJ := hide (J2.out w2 o2)
        have BB := hide (B2.out w2 o2)
        clear o2 y0 y1 J2 B2
        go_wp2_with fail
        go_roundw
        case rel => exact ⟨k + 1, r, by go_num, hkD, HD2, HE2, hide ⟨n + 1, HN.out, JJ.out⟩, BB⟩
        case measure => exact ML.out _ JJ.out
      | false =>
        have EE := STOP (digsOf_no hdg) (digsEnd_no hdg)
        have g3 := isDig_no hdg
        have two : Hid (c.toNat < 48) ∨ Hid (48 ≤ c.toNat ∧ 57 < c.toNat) := by
          rcases Nat.lt_or_ge c.toNat 48 with h | h
          · exact .inl (hide h)
          · exact .inr (hide ⟨h, by omega⟩)
        clear STOP g3 hdg
        rcases two with T | T
        · have t1 := T.out
          have g1 : ¬ (48 : Int) ≤ (c.toNat : Int) := by omega
          have d1 : decide ((48 : Int) ≤ (c.toNat : Int)) = false := decide_eq_false g1
          clear t1 T
          go_wp2_with fail
          refine region_later (by kernel_rfl) (by kernel_rfl) ?_
          repeat (go_big_quiet_step (fail))
          refine wpQuiet_nil ?_
          rintro w2 ⟨⟨_, o2⟩, rfl⟩
          have O2 := hide o2
          clear o2 y0 y1
          go_wp2_with fail
          go_ret
          exact ⟨by rw [← EE.out.1]; rfl, EE.out.2 w2 O2.out, BO.out w2 O2.out⟩
        · have t1 := T.out
          have g1 : (48 : Int) ≤ (c.toNat : Int) := by omega
          have d1 : decide ((48 : Int) ≤ (c.toNat : Int)) = true := decide_eq_true g1
          have g2 : ¬ (c.toNat : Int) ≤ 57 := by omega
          have d2 : decide ((c.toNat : Int) ≤ 57) = false := decide_eq_false g2
          clear t1 T
          go_wp2_with fail
          refine region_later (by kernel_rfl) (by kernel_rfl) ?_
          repeat (go_big_quiet_step (fail))
          refine wpQuiet_nil ?_
          rintro w2 ⟨⟨_, o2⟩, rfl⟩
          have O2 := hide o2
          clear o2 y0 y1
          go_wp2_with fail
          go_ret
          exact ⟨by rw [← EE.out.1]; rfl, EE.out.2 w2 O2.out, BO.out w2 O2.out⟩
end Go.Proofs.YtdlcibbbebhcoaaGreatDoor
