/-  -/
import Derived.Test.YthlfljmfggmfdaaGreatDoorQk31
import Derived.Test.YthlfljmfggmfdaaGreatDoorQk11
import Derived.Laws.Cover4
import Derived.Test.YthlfljmfggmfdaaGreatDoorQk10
import Derived.Lib.SlBytesConst
import Derived.Deep.RegionHeld
/-! ###  -/
namespace Go.Proofs.YthlfljmfggmfdaaGreatDoor
open Go.RowKit
def rdLeft (rb : Nat) (s : ByteArray) (w : World) : Nat :=
 match w.cell? ⟨rb, 1, none⟩, w.cell? ⟨rb, 2, none⟩ with
 | some (.int _ k), some (.int _ e) => if e = 0 then s.size + 1 - k.toNat else 0
 | _, _ => 0
theorem rdLeft_err {rb : Nat} {s : ByteArray} {c : Int} {w : World} (h : Rd rb s (.error c) w) : rdLeft rb s w = 0 := by
 obtain ⟨_, _, _, k, e, h4, h5, h6, h7⟩ := h
 unfold rdLeft
 subst h6
 rw [h4, h5]
 simp [h7]
theorem rdLeft_ok {rb : Nat} {s : ByteArray} {l : List UInt8} {w : World} (h : Rd rb s (.ok l) w) : rdLeft rb s w = l.length + 1 := by
 obtain ⟨_, _, _, k, e, h4, h5, h6, n, rfl, h7, _⟩ := h
 unfold rdLeft
 subst h6
 rw [h4, h5]
 simp
 omega
theorem WBs.one {T : TypeId} {B b rb : Nat} {l : List UInt8} {w w' : World} (h : WBs T B b l w) (o : One rb w w') (hrb : rb < B) : WBs T B b l w' := by
 have go : ∀ p, Lib.BuilderAtF T 5 B b p (Lib.byteCells l) w → Lib.BuilderAtF T 5 B b p (Lib.byteCells l) w' := by
  rintro p ⟨hB, v, hb, hown, hne⟩
  refine ⟨hB, v, o.heap hb (by omega), ⟨hown.1, ?_⟩, hne⟩
  rcases hown.2 with h | ⟨g, cap, cur, fz, hv, hg, hh, r⟩
  · exact .inl h
  · exact .inr ⟨g, cap, cur, fz, hv, hg, o.heap hh (by omega), r⟩
 exact h.imp (go _) (go _)
theorem Rd.below {rb B : Nat} {s : ByteArray} {σ : RSt} {w w' : World} (h : Rd rb s σ w) (k : RowKit.Below B w w') (hB : rb < B) : Rd rb s σ w' := by
 obtain ⟨h1, h2, h3, a, e, h4, h5, h6⟩ := h
 exact ⟨(k.cell hB).trans h1, (k.frozen hB).trans h2, (k.frozen hB).trans h3, a, e, (k.cell hB).trans h4, (k.cell hB).trans h5, h6⟩
def unqOn (acc : List UInt8) : RSt → Except Int (List UInt8 × List UInt8)
 | .error c => .error c
 | .ok l => match unqB (l.length + 1) l with
   | .error c => .error c
   | .ok (u, r) => .ok (acc ++ u, r)
theorem unqOn_end (acc r : List UInt8) : unqOn acc (.ok (34 :: r)) = .ok (acc, r) := by simp [unqOn, unqB]
def pcR (l : List UInt8) : RSt := match pieceV l with | .ok (_, r) => .ok r | .error c => .error c
def pcT (l : List UInt8) : List UInt8 := match pieceV l with | .ok (t, _) => t | .error _ => []
theorem unqOn_piece (acc : List UInt8) {c : UInt8} (r : List UInt8) (hc : c ≠ 34) : unqOn acc (.ok (c :: r)) = unqOn (acc ++ pcT (c :: r)) (pcR (c :: r)) := by
 unfold pcT pcR
 simp only [unqOn, List.length_cons, unqB, if_neg hc]
 cases hp : pieceV (c :: r) with
 | error e => rfl
 | ok x =>
   obtain ⟨t, r1⟩ := x
   have h1 := pieceV_less hp
   simp only [List.length_cons] at h1
   simp only
   rw [unqB_more (r.length + 1) (r1.length + 1) r1 (by omega) (by omega)]
   cases unqB (r1.length + 1) r1 with
   | error e => rfl
   | ok y => simp [List.append_assoc]
theorem pcR_less {l r : List UInt8} (h : pcR l = .ok r) : r.length < l.length := by
 unfold pcR at h
 cases hp : pieceV l with
 | error e => rw [hp] at h; cases h
 | ok x =>
   obtain ⟨t, r1⟩ := x
   rw [hp] at h
   injection h with h
   subst h
   exact pieceV_less hp
theorem pc_esc (r : List UInt8) : pcR (92 :: r) = escR r ∧ pcT (92 :: r) = escT r := by
 have e : pieceV (92 :: r) = escV r := by
  show (if (92 : UInt8) = 92 then escV r else plainV (92 :: r)) = escV r
  exact if_pos rfl
 unfold pcR pcT escR escT
 rw [e]
 exact ⟨rfl, rfl⟩
theorem pc_plain {c : UInt8} (r : List UInt8) (hc : c ≠ 92) : pcR (c :: r) = plR (c :: r) ∧ pcT (c :: r) = plT (c :: r) := by
 have e : pieceV (c :: r) = plainV (c :: r) := by
  show (if c = 92 then escV r else plainV (c :: r)) = plainV (c :: r)
  exact if_neg hc
 unfold pcR pcT plR plT
 rw [e]
 exact ⟨rfl, rfl⟩
theorem unq_start (l : List UInt8) : unqV l = unqOn [] (wantR 34 (.ok l)) := by
 cases l with
 | nil => rfl
 | cons c r =>
   simp only [unqV, wantR, want1]
   by_cases h : c = 34
   · rw [if_neg (fun x => x h), if_pos h]
     simp only [unqOn, List.nil_append]
     cases unqB (r.length + 1) r with
     | error e => rfl
     | ok x => rfl
   · rw [if_pos h, if_neg h]
     rfl
def unqE (n : Nat) : Except Int (List UInt8 × List UInt8) → Value
 | .error c => .tuple #[.string ⟨#[]⟩, .int .i64 0, .int .i64 c]
 | .ok (t, r) => .tuple #[.string (bT t), .int .i64 ((n - r.length : Nat) : Int), .int .i64 0]
theorem rd_new (s : ByteArray) (w : World) : Rd w.heap.size s (.ok s.data.toList) (w.alloc (.cells #[.string s, .int .i64 0, .int .i64 0] 221)) := by
 have hh := heap_alloc_new w (.cells #[.string s, .int .i64 0, .int .i64 0] 221)
 exact ⟨(cell_of_heap hh).trans rfl, free_of_heap hh, free_of_heap hh, 0, 0, (cell_of_heap hh).trans rfl, (cell_of_heap hh).trans rfl, rfl, 0, rfl, by simp, rfl⟩
theorem list_size (b : ByteArray) : b.data.toList.length = b.size := by cases b; simp [ByteArray.size]
theorem encL_def (n : Nat) : encL n = (Utf8.encode (n : Int)).data.toList := by rw [encL]
theorem size_of_eq {b : ByteArray} {l : List UInt8} (h : l = b.data.toList) (hb : b.size ≤ 4) : l.length ≤ 4 := by
 subst h
 rw [list_size]
 exact hb
theorem encL_len (n : Nat) : (encL n).length ≤ 4 := size_of_eq (encL_def n) (encode_size_le _)
theorem escV_len {l r t : List UInt8} (h : escV l = .ok (t, r)) : t.length ≤ 4 := by
 cases l with
 | nil => cases h
 | cons c l =>
   simp only [escV] at h
   split at h
   · injection h with h; injection h with h _; subst h; decide
   split at h
   · injection h with h; injection h with h _; subst h; exact encL_len _
   split at h
   · cases h
   split at h
   · cases h
   split at h
   · split at h
     · cases h
     split at h
     · cases h
     split at h
     · cases h
     injection h with h; injection h with h _; subst h
     exact encL_len _
   · injection h with h; injection h with h _; subst h
     exact encL_len _
theorem plainV_len {l r t : List UInt8} (h : plainV l = .ok (t, r)) : t.length ≤ 4 := by
 cases l with
 | nil => cases h
 | cons c l =>
   simp only [plainV] at h
   split at h
   · cases h
   split at h
   · injection h with h; injection h with h _; subst h
     have h4 : runeN (c :: l) ≤ 4 := by
      unfold runeN
      split
      · omega
      · rename_i hne
        have h2 := next_decode (c :: l) (by simp)
        have e : bT (c :: l) = txt (c :: l) := rfl
        rw [e] at hne ⊢
        rw [if_neg hne] at h2
        have := nextN_four (txt (c :: l))
        omega
     rw [List.length_take]
     omega
   · split at h <;> cases h
theorem pcT_len (l : List UInt8) : (pcT l).length ≤ 4 := by
 unfold pcT
 cases hp : pieceV l with
 | error e => simp
 | ok x =>
   obtain ⟨t, r1⟩ := x
   simp only
   cases l with
   | nil => cases hp
   | cons c l =>
     simp only [pieceV] at hp
     split at hp
     · exact escV_len hp
     · exact plainV_len hp
structure SBw (B : Nat) (acc : List UInt8) (w w' : World) : Prop where
 low : RowKit.Below B w w'
 has : WBs 91 B B acc w'
 size : B ≤ w'.heap.size
theorem WBs.drew {T : TypeId} {B b : Nat} {l : List UInt8} {w : World} (h : WBs T B b l w) : WBs T B b l w.drew := h
theorem SBw.drew {B : Nat} {acc : List UInt8} {w w' : World} (h : SBw B acc w w') : SBw B acc w w'.drew := ⟨h.low.drew, WBs.drew h.has, h.size⟩
theorem wb_String_any (B : Nat) (l : List UInt8) (w0 w : World) (h : SBw B l w0 w) :
 Calls Tryz.prog 58 #[.pointer (some ⟨B, 0, none⟩)] w fun e w' => e = .returned (.string ⟨l.toArray⟩) ∧ SBw B l w0 w' :=
 (Tryz.Builder_String_any_k B B l w h.has h.size).mono fun _ _ hh => ⟨hh.1, h.low.trans hh.2.2.1, hh.2.1, Nat.le_trans h.size hh.2.2.1.size⟩
set_option maxRecDepth 100000 in
set_option maxHeartbeats 4000000 in
theorem unquote_run (s : ByteArray) (w : World) (hs : s.size ≤ 1073741824) (hT : Tabs w) :
 Calls Tryz.prog 125 #[.string s] w fun e w' => e = .returned (unqE s.size (unqV s.data.toList)) ∧ Old w w' := by
 obtain ⟨rb, hrb⟩ : ∃ rb, w.heap.size = rb := ⟨_, rfl⟩
 have HT := hide hT
 have CW := hide (want_run rb s (.ok s.data.toList) 34 (w.alloc (.cells #[.string s, .int .i64 0, .int .i64 0] 221)) hs (by rw [← hrb]; exact rd_new s w))
 have HRB := hide hrb
 rw [unq_start]
 obtain ⟨RES, hRES⟩ : ∃ x, Hid (unqOn [] (wantR 34 (.ok s.data.toList)) = x) := ⟨_, hide rfl⟩
 rw [hRES.out]
 clear hT
 go_enter Tryz.func125, Tryz.ntmps125
 go_wp2_with fail
 refine CW.out.mono ?_
 rintro e w1 ⟨rfl, r1, o1⟩
 have R1 := hide r1
 have O1 := hide (show Old w w1 from One.to_old (Old.alloc (Old.refl w) _) o1 (by rw [HRB.out]; omega))
 have hrb1 : rb < w1.heap.size := by have := o1.size; rw [World.size_alloc, HRB.out] at this; omega
 clear r1 o1 CW hrb
 have W1 := hide (show WBs 91 w1.heap.size w1.heap.size [] (w1.alloc (.cells #[.pointer none, .slice none 0 0] 91)) from Lib.IsBuilderF.of (Lib.fresh_isBuilder _ _ w1))
 have R2 := hide (R1.out.old (Old.alloc (Old.refl _) (.cells #[.pointer none, .slice none 0 0] 91)))
 have O2 := hide (Old.trans O1.out (Old.alloc (Old.refl _) (.cells #[.pointer none, .slice none 0 0] 91)))
 have hBrb := hrb1
 have hBw := hide (show w1.heap.size ≤ (w1.alloc (.cells #[.pointer none, .slice none 0 0] 91)).heap.size by rw [World.size_alloc]; omega)
 have hwB := hide (show w.heap.size ≤ w1.heap.size by rw [HRB.out]; omega)
 obtain ⟨σ0, hσ0⟩ : ∃ x, Hid (wantR 34 (.ok s.data.toList) = x) := ⟨_, hide rfl⟩
 rw [hσ0.out] at hRES R2
 have INI := hide (show ∀ l, σ0 = .ok l → ([] : List UInt8).length + 4 * l.length ≤ 4 * s.size from fun l hl => by
  have h1 := R2.out.st
  rw [hl] at h1
  obtain ⟨_, _, _, _, _, n, _, h2, _⟩ := h1
  simp only [List.length_nil]
  omega)
 clear R1 O1 hrb1 hσ0
 go_wp2_with fail
 go_loopw [] (fun wr => ∃ (σ : RSt) (acc : List UInt8), Hid (Rd rb s σ wr) ∧ Hid (WBs 91 w1.heap.size w1.heap.size acc wr) ∧ Hid (Old w wr) ∧ Hid (w1.heap.size ≤ wr.heap.size) ∧ Hid (unqOn acc σ = RES) ∧ Hid (∀ l, σ = .ok l → acc.length + 4 * l.length ≤ 4 * s.size)) (fun wr => rdLeft rb s wr)
 case atStart => exact ⟨_, _, R2, W1, O2, hBw, hRES, INI⟩
 case round =>
  obtain ⟨σ, acc, HR, HW, HO, HB, HU, HA⟩ := hrel
  have RR := HR.out
  obtain ⟨x0, f1, f2, k, er, x1, x2, hst⟩ := RR
  cases σ with
  | error c =>
    obtain ⟨rfl, hc0⟩ := hst
    have hc0' : (er == 0) = false := beq_eq_false_iff_ne.2 hc0
    have FIN := hide (show RES = .error er from HU.out.symm)
    clear hc0
    go_wp2_with fail
    go_quiet (fail)
    go_wp2_with fail
    go_ret3
    exact ⟨by rw [FIN.out]; rfl, HO.out.drewN _⟩
  | ok l =>
    obtain ⟨rfl, n, rfl, hn, hd⟩ := hst
    have LEFT := hide (rdLeft_ok HR.out)
    cases l with
    | nil =>
      simp only [List.length_nil, Nat.add_zero] at hn
      have hq : ((n : Int) == (s.size : Int)) = true := by rw [hn]; simp
      have CF := hide (rfail_run rb s (.ok []) 3 wr HR.out (by decide))
      clear hn hd
      go_wp2_with fail
      refine CF.out.mono ?_
      rintro e w5 ⟨rfl, r5, o5⟩
      have R5 := hide r5
      have W5 := hide (WBs.one HW.out o5 hBrb)
      have O5 := hide (One.to_old HO.out o5 (by rw [HRB.out]; omega))
      have B5 := hide (Nat.le_trans HB.out o5.size)
      clear r5 o5
      go_wp2_with fail
      go_roundw
      case rel => exact ⟨.error 3, acc, R5, W5, O5, B5, hide HU.out, hide (fun l hl => by cases hl)⟩
      case measure => rw [LEFT.out, rdLeft_err R5.out]; omega
    | cons c r =>
      obtain ⟨b1, b2, b3⟩ := byte_at hd
      have hq : ((n : Int) == (s.size : Int)) = false := beq_eq_false_iff_ne.2 (by omega)
      have bx : s[n] = c := by rw [get_at s b1, b2]
      have HN := hide hn
      have HD := hide hd
      have hnlt : n < s.size := b1
      have hrn : n + 1 + r.length = s.size := by simp only [List.length_cons] at hn; omega
      clear hn hd b2 b3
      by_cases h34 : c = 34
      · have q34 : ((c.toNat : Int) == 34) = true := by rw [h34]; rfl
        have FIN := hide (show RES = .ok (acc, r) by rw [← HU.out, h34, unqOn_end])
        have CS := hide (fun w' (k : SBw w1.heap.size acc wr w') => wb_String_any w1.heap.size acc wr w' k)
        have S0 : SBw w1.heap.size acc wr wr := ⟨Below.refl _ _, HW.out, HB.out⟩
        have hy1 : ∀ w', SBw w1.heap.size acc wr w' → w'.cell? ⟨rb, 1, none⟩ = some (.int .i64 n) := fun w' k => (k.low.cell hBrb).trans x1
        have hwn : IntKind.i64.wrap ((n : Int) + 1) = (n : Int) + 1 := IntWalk.i64_in _ (by omega)
        clear h34
        go_wp2_with fail
        go_region_held3 (fun w' => SBw w1.heap.size acc wr w')
         (first | assumption | (exact SBw.drew (by assumption)))
         (first | (go_at_call 58; (with_reducible refine (CS.out _ (by assumption)).mono ?_); rintro e w30 ⟨rfl, s30⟩))
        have OF := hide (show Old w w30 from Below.trans HO.out (RowKit.Below.mono s30.low hwB.out))
        have EN := hide (show ((n : Int) + 1) = ((s.size - r.length : Nat) : Int) by omega)
        clear hy1 S0
        go_wp2_with fail
        go_ret3
        exact ⟨by rw [FIN.out]; simp only [unqE]; rw [← EN.out]; rfl, OF.out⟩
      · have q34 : ((c.toNat : Int) == 34) = false := by
         have : c.toNat ≠ 34 := fun e => h34 (UInt8.toNat_inj.1 e)
         simp; omega
        have UP := hide (unqOn_piece acc r h34)
        have PL := hide (pcT_len (c :: r))
        have hacc : acc.length + 4 * (r.length + 1) ≤ 4 * s.size := by have := HA.out (c :: r) rfl; simpa using this
        have NXT := hide (show ∀ l, pcR (c :: r) = .ok l → (acc ++ pcT (c :: r)).length + 4 * l.length ≤ 4 * s.size from fun l hl => by
         have h1 := pcR_less hl
         have h2 := PL.out
         simp only [List.length_cons] at h1
         rw [List.length_append]
         omega)
        have MES := hide (show ∀ w', Rd rb s (pcR (c :: r)) w' → rdLeft rb s w' < rdLeft rb s wr from fun w' h' => by
         rw [LEFT.out]
         cases hp : pcR (c :: r) with
         | error e => rw [hp] at h'; rw [rdLeft_err h']; omega
         | ok l => rw [hp] at h'; rw [rdLeft_ok h']; have := pcR_less hp; omega)
        have CWS := hide (fun w' (hw : WBs 91 w1.heap.size w1.heap.size acc w') (hb : w1.heap.size ≤ w'.heap.size) => wb_WriteString 91 (.inl rfl) w1.heap.size w1.heap.size acc (bT (pcT (c :: r))) w' hw (by have := PL.out; rw [bT_size]; omega) hb)
        have hbt : (bT (pcT (c :: r))).data.toList = pcT (c :: r) := by simp [bT]
        have HBT := hide hbt
        clear hbt
        by_cases h92 : c = 92
        · have q92 : ((c.toNat : Int) == 92) = true := by rw [h92]; rfl
          have PE := hide (show pcR (c :: r) = escR r ∧ pcT (c :: r) = escT r by rw [h92]; exact pc_esc r)
          have R5 := hide (HR.out.setAt (τ := .ok r) x2 (StR.next (n := n) HN.out HD.out))
          have CE := hide (escape_run rb s r _ hs R5.out)
          unfold EscE at CE
          rw [← PE.out.1, ← PE.out.2] at CE
          clear h92 h34
          go_wp2_with fail
          refine CE.out.mono ?_
          rintro e w6 ⟨rfl, r6, o6⟩
          have R6 := hide r6
          have OO := hide (((One.refl rb wr).set 1 (.int .i64 ((n : Int) + 1))).trans o6)
          have W6 := hide (WBs.one HW.out OO.out hBrb)
          have B6 := hide (Nat.le_trans HB.out OO.out.size)
          have O6 := hide (One.to_old HO.out OO.out (by rw [HRB.out]; omega))
          clear r6 o6
          go_wp2_with fail
          refine (CWS.out w6 W6.out B6.out).mono ?_
          rintro e w7 ⟨rfl, h7, k7⟩
          have W7 := hide (show WBs 91 w1.heap.size w1.heap.size (acc ++ pcT (c :: r)) w7 by rw [← HBT.out]; exact h7)
          have R7 := hide (R6.out.below k7.below hBrb)
          have B7 := hide (Nat.le_trans B6.out k7.below.size)
          have O7 := hide (show Old w w7 from Below.trans O6.out (RowKit.Below.mono k7.below hwB.out))
          clear h7 k7
          go_wp2_with fail
          go_roundw
          case rel => exact ⟨_, _, R7, W7, O7, B7, hide (UP.out.symm.trans HU.out), NXT⟩
          case measure => exact MES.out w7 R7.out
        · have q92 : ((c.toNat : Int) == 92) = false := by
           have : c.toNat ≠ 92 := fun e => h92 (UInt8.toNat_inj.1 e)
           simp; omega
          have PE := hide (pc_plain r h92)
          have CE := hide (plain_run rb s c r wr hs HR.out (HT.out.old HO.out))
          rw [← PE.out.1, ← PE.out.2] at CE
          clear h92 h34
          go_wp2_with fail
          refine CE.out.mono ?_
          rintro e w6 ⟨rfl, r6, o6⟩
          have R6 := hide r6
          have W6 := hide (WBs.one HW.out o6 hBrb)
          have B6 := hide (Nat.le_trans HB.out o6.size)
          have O6 := hide (One.to_old HO.out o6 (by rw [HRB.out]; omega))
          clear r6 o6
          go_wp2_with fail
          refine (CWS.out w6 W6.out B6.out).mono ?_
          rintro e w7 ⟨rfl, h7, k7⟩
          have W7 := hide (show WBs 91 w1.heap.size w1.heap.size (acc ++ pcT (c :: r)) w7 by rw [← HBT.out]; exact h7)
          have R7 := hide (R6.out.below k7.below hBrb)
          have B7 := hide (Nat.le_trans B6.out k7.below.size)
          have O7 := hide (show Old w w7 from Below.trans O6.out (RowKit.Below.mono k7.below hwB.out))
          clear h7 k7
          go_wp2_with fail
          go_roundw
          case rel => exact ⟨_, _, R7, W7, O7, B7, hide (UP.out.symm.trans HU.out), NXT⟩
          case measure => exact MES.out w7 R7.out
end Go.Proofs.YthlfljmfggmfdaaGreatDoor

/-! ###  -/
namespace Go.Proofs.YthlfljmfggmfdaaGreatDoor
open Go.RowKit
abbrev jrCells (s : ByteArray) (n : Nat) (ov hv : Value) (key : ByteArray) (e bad : Int) : Array Value := #[.string s, .int .i64 (n : Int), ov, hv, .string key, .int .i64 e, .int .i64 bad]
structure JR (base rb : Nat) (s : ByteArray) (n : Nat) (out : List Nd) (H : List Jh) (key : ByteArray) (e bad : Int) (w : World) : Prop where
 low : base ≤ rb
 mem : ∃ ov hv, w.heap[rb]? = some (.cells (jrCells s n ov hv key e bad) 100 (0, 0)) ∧ NodesOwn base w ov out ∧ JOpen base w hv H
theorem set_heap {w : World} {rb i : Nat} {cs : Array Value} {T : TypeId} {f : Nat × Nat} (h : w.heap[rb]? = some (.cells cs T f)) (v : Value) : (w.setCell ⟨rb, i, none⟩ v).heap[rb]? = some (.cells (cs.setIfInBounds i v) T f) := by
 simp [World.setCell, Array.getElem?_modify, h]
theorem own_set_else {base T size n rb i : Nat} {w : World} {v u : Value} {xs : List Value} {cs : Array Value} {T' : TypeId} {f : Nat × Nat} (h : w.ownsRow base T size v n xs) (hb : w.heap[rb]? = some (.cells cs T' f)) (hne : T ≠ T') : (w.setCell ⟨rb, i, none⟩ u).ownsRow base T size v n xs := by
 obtain ⟨hl, h2⟩ := h
 refine ⟨hl, ?_⟩
 rcases h2 with h2 | ⟨g, cap, cur, rfl, hg, hh, r⟩
 · exact .inl h2
 · refine .inr ⟨g, cap, cur, rfl, hg, ?_, r⟩
   have hgr : g ≠ rb := by
    rintro rfl
    rw [hb] at hh
    injection hh with hh
    injection hh with _ hT _
    exact hne hT.symm
   rw [((One.refl rb w).set i u).block g (block_lt hh) hgr]
   exact hh
theorem keys_set_else {b rb i : Nat} {w : World} {u : Value} {had : List ByteArray} {cs : Array Value} {T' : TypeId} {f : Nat × Nat} (h : Keys w b had) (hb : w.heap[rb]? = some (.cells cs T' f)) : Keys (w.setCell ⟨rb, i, none⟩ u) b had := by
 refine h.same (((One.refl rb w).set i u).block b h.lt ?_)
 rintro rfl
 obtain ⟨D, ⟨es, clock, h2, _⟩, _⟩ := h
 rw [hb] at h2
 cases h2
theorem JOpen.set_else {base rb i : Nat} {w : World} {v u : Value} {S : List Jh} {cs : Array Value} {T' : TypeId} {f : Nat × Nat} (h : JOpen base w v S) (hb : w.heap[rb]? = some (.cells cs T' f)) (hne : 139 ≠ T') : JOpen base (w.setCell ⟨rb, i, none⟩ u) v S := by
 obtain ⟨ms, h1, h2, h3, h4⟩ := h
 refine ⟨ms, h1, own_set_else h2 hb hne, fun i hi hi' => ?_, h4⟩
 obtain ⟨b, e, r1, r2⟩ := h3 i hi hi'
 exact ⟨b, e, r1, keys_set_else r2 hb⟩
section
variable {base rb n : Nat} {s key : ByteArray} {out : List Nd} {H : List Jh} {e bad : Int} {w w' : World}
theorem JR.old (h : JR base rb s n out H key e bad w) (o : Old w w') : JR base rb s n out H key e bad w' := by
 obtain ⟨h1, ov, hv, h2, h3, h4⟩ := h
 exact ⟨h1, ov, hv, o.heap h2, own_old h3 o, h4.old o⟩
theorem JR.cells (h : JR base rb s n out H key e bad w) : ∃ ov hv, (w.cell? ⟨rb, 0, none⟩ = some (.string s) ∧ w.cell? ⟨rb, 1, none⟩ = some (.int .i64 (n : Int)) ∧ w.cell? ⟨rb, 2, none⟩ = some ov ∧ w.cell? ⟨rb, 3, none⟩ = some hv ∧ w.cell? ⟨rb, 4, none⟩ = some (.string key) ∧ w.cell? ⟨rb, 5, none⟩ = some (.int .i64 e) ∧ w.cell? ⟨rb, 6, none⟩ = some (.int .i64 bad)) ∧
 (∀ i, w.frozen? ⟨rb, i, none⟩ = false) ∧ NodesOwn base w ov out ∧ JOpen base w hv H := by
 obtain ⟨h1, ov, hv, h2, h3, h4⟩ := h
 exact ⟨ov, hv, ⟨(cell_of_heap h2).trans rfl, (cell_of_heap h2).trans rfl, (cell_of_heap h2).trans rfl, (cell_of_heap h2).trans rfl, (cell_of_heap h2).trans rfl, (cell_of_heap h2).trans rfl, (cell_of_heap h2).trans rfl⟩, fun i => free_of_heap h2, h3, h4⟩
theorem JR.lt (h : JR base rb s n out H key e bad w) : rb < w.heap.size := by
 obtain ⟨h1, ov, hv, h2, h3, h4⟩ := h
 exact block_lt h2
theorem JR.setAt (h : JR base rb s n out H key e bad w) (m : Nat) {z : Int} (hz : z = m) : JR base rb s m out H key e bad (w.setCell ⟨rb, 1, none⟩ (.int .i64 z)) := by
 subst hz
 obtain ⟨h1, ov, hv, h2, h3, h4⟩ := h
 exact ⟨h1, ov, hv, set_heap h2 _, own_set_else h3 h2 (by decide), h4.set_else h2 (by decide)⟩
theorem JR.setKey (h : JR base rb s n out H key e bad w) (k : ByteArray) : JR base rb s n out H k e bad (w.setCell ⟨rb, 4, none⟩ (.string k)) := by
 obtain ⟨h1, ov, hv, h2, h3, h4⟩ := h
 exact ⟨h1, ov, hv, set_heap h2 _, own_set_else h3 h2 (by decide), h4.set_else h2 (by decide)⟩
theorem JR.setE (h : JR base rb s n out H key e bad w) (k : Int) : JR base rb s n out H key k bad (w.setCell ⟨rb, 5, none⟩ (.int .i64 k)) := by
 obtain ⟨h1, ov, hv, h2, h3, h4⟩ := h
 exact ⟨h1, ov, hv, set_heap h2 _, own_set_else h3 h2 (by decide), h4.set_else h2 (by decide)⟩
theorem JR.setBad (h : JR base rb s n out H key e bad w) (k : Int) : JR base rb s n out H key e k (w.setCell ⟨rb, 6, none⟩ (.int .i64 k)) := by
 obtain ⟨h1, ov, hv, h2, h3, h4⟩ := h
 exact ⟨h1, ov, hv, set_heap h2 _, own_set_else h3 h2 (by decide), h4.set_else h2 (by decide)⟩
theorem JR.setOpen (h : JR base rb s n out H key e bad w) {v : Value} {H' : List Jh} (hv : JOpen base w v H') : JR base rb s n out H' key e bad (w.setCell ⟨rb, 3, none⟩ v) := by
 obtain ⟨h1, ov, hv0, h2, h3, h4⟩ := h
 exact ⟨h1, ov, v, set_heap h2 _, own_set_else h3 h2 (by decide), hv.set_else h2 (by decide)⟩
theorem JR.keepAt (h : JR base rb s n out H key e bad w) (i : Nat) (v : Value) : RowKit.Below base w (w.setCell ⟨rb, i, none⟩ v) := (Below.refl _ _).setCell h.low _
end
structure Bel (base rb : Nat) (w w' : World) : Prop where
 low : RowKit.Below base w w'
 one : One rb w w'
 row : ∀ v, w.cell? ⟨rb, 2, none⟩ = some v → w'.cell? ⟨rb, 2, none⟩ = some v
theorem Bel.refl (base rb : Nat) (w : World) : Bel base rb w w := ⟨Below.refl _ _, One.refl _ _, fun _ h => h⟩
theorem Bel.trans {base rb : Nat} {a b c : World} (h : Bel base rb a b) (k : Bel base rb b c) : Bel base rb a c := ⟨h.low.trans k.low, h.one.trans k.one, fun v hv => k.row v (h.row v hv)⟩
theorem Bel.ofOld {base rb : Nat} {a b : World} (o : Old a b) (h : base ≤ a.heap.size) : Bel base rb a b := ⟨RowKit.Below.mono o h, (One.refl _ _).old o, fun _ hv => o.cell hv⟩
theorem Bel.size {base rb : Nat} {a b : World} (h : Bel base rb a b) : a.heap.size ≤ b.heap.size := h.low.size
theorem set_cell2 {w : World} {rb i : Nat} {u v : Value} (hi : i ≠ 2) (h : w.cell? ⟨rb, 2, none⟩ = some v) : (w.setCell ⟨rb, i, none⟩ u).cell? ⟨rb, 2, none⟩ = some v :=
 (World.cell?_setCell_other w _ _ _ (fun e => hi (by injection e))).trans h
theorem JR.keepB {base rb n : Nat} {s key : ByteArray} {out : List Nd} {H : List Jh} {e bad : Int} {w : World} (h : JR base rb s n out H key e bad w) (i : Nat) (v : Value) (hi : i ≠ 2) : Bel base rb w (w.setCell ⟨rb, i, none⟩ v) := ⟨h.keepAt i v, (One.refl _ _).set i v, fun _ hv => set_cell2 hi hv⟩
set_option maxRecDepth 100000 in
theorem jfail_runB (base rb : Nat) (s : ByteArray) (n : Nat) (out : List Nd) (H : List Jh) (key : ByteArray) (e bad : Int) (w : World) (h : JR base rb s n out H key e bad w) (at_ c : Int) :
 Calls Tryz.prog 65 #[.pointer (some ⟨rb, 0, none⟩), .int .i64 at_, .int .i64 c] w fun x w' => x = .returned (.bool false) ∧ JR base rb s n out H key c at_ w' ∧ Bel base rb w w' := by
 have H1 := hide ((h.setBad at_).setE c)
 have BB := hide ((h.keepB 6 (.int .i64 at_) (by decide)).trans ((h.setBad at_).keepB 5 (.int .i64 c) (by decide)))
 obtain ⟨ov, hv, ⟨x0, x1, x2, x3, x4, x5, x6⟩, hf, _, _⟩ := h.cells
 have f5 := hf 5
 have f6 := hf 6
 clear h hf x0 x1 x2 x3 x4
 go_enter Tryz.func65, Tryz.ntmps65
 go_wp2_with fail
 go_ret
 exact ⟨rfl, H1.out, BB.out⟩
theorem jfail_run (base rb : Nat) (s : ByteArray) (n : Nat) (out : List Nd) (H : List Jh) (key : ByteArray) (e bad : Int) (w : World) (h : JR base rb s n out H key e bad w) (at_ c : Int) :
 Calls Tryz.prog 65 #[.pointer (some ⟨rb, 0, none⟩), .int .i64 at_, .int .i64 c] w fun x w' => x = .returned (.bool false) ∧ JR base rb s n out H key c at_ w' ∧ RowKit.Below base w w' :=
 (jfail_runB base rb s n out H key e bad w h at_ c).mono fun _ _ k => ⟨k.1, k.2.1, k.2.2.low⟩
def byV (l : List UInt8) : List Value := l.map fun b => .int .u8 (b.toNat : Int)
theorem byV_len (l : List UInt8) : (byV l).length = l.length := by simp [byV]
set_option maxRecDepth 100000 in
theorem index_run (v : Value) (xs : List UInt8) (c : UInt8) (w : World) (h : Sl w v xs.length (byV xs)) (hl : xs.length ≤ 1000) :
 Calls Tryz.prog 124 #[v, .int .u8 (c.toNat : Int)] w fun e w' => (∃ k : Int, e = .returned (.int .i64 k) ∧ (0 ≤ k ↔ c ∈ xs)) ∧ w = w' := by
 obtain ⟨A, cap, rfl, h1, h2, h3⟩ := h
 unfold maxLen at h2
 obtain ⟨n, hn⟩ : ∃ n, Hid (xs.length = n) := ⟨_, hide rfl⟩
 rw [hn.out] at h1 hl ⊢
 have H3 := hide h3
 clear h3
 go_enter Tryz.func124, Tryz.ntmps124
 go_wp2_with fail
 go_loop [8] (fun i => ∃ k : Nat, i = .int .i64 k ∧ k ≤ n ∧ Hid (c ∉ xs.take k)) (fun i => n - (intOf i).toNat)
 case atStart => exact ⟨0, rfl, by omega, hide (by simp)⟩
 case round =>
  obtain ⟨k, rfl, hk, HN⟩ := hrel
  by_cases hlt : k < n
  · have hkl : k < xs.length := by rw [hn.out]; exact hlt
    obtain ⟨b, off, rfl, hc⟩ := H3.out (by intro e; have := congrArg List.length e; rw [byV_len] at this; simp at this; subst this; simp at hkl)
    have hcell : w.cell? ⟨b, off + k, none⟩ = some (.int .u8 (xs[k].toNat : Int)) := hc k _ (by simp [byV, hkl])
    obtain ⟨x, hx⟩ : ∃ x, Hid (xs[k] = x) := ⟨_, hide rfl⟩
    rw [hx.out] at hcell
    have HT := hide (show xs.take (k + 1) = xs.take k ++ [x] by rw [List.take_succ_eq_append_getElem hkl, hx.out])
    have HM := hide (show x ∈ xs by rw [← hx.out]; exact List.getElem_mem hkl)
    clear hc
    by_cases hxc : c = x
    · have hq : ((c.toNat : Int) == (x.toNat : Int)) = true := by rw [hxc]; simp
      have FIN := hide (show (0 : Int) ≤ (k : Int) ↔ c ∈ xs from ⟨fun _ => by rw [hxc]; exact HM.out, fun _ => by omega⟩)
      clear hxc
      go_wp2_with fail
      go_ret
      exact ⟨⟨_, rfl, FIN.out⟩, rfl⟩
    · have hq : ((c.toNat : Int) == (x.toNat : Int)) = false := by
       have : c.toNat ≠ x.toNat := fun e => hxc (UInt8.toNat_inj.1 e)
       simp; omega
      have HN2 := hide (show c ∉ xs.take (k + 1) by
       rw [HT.out, List.mem_append, List.mem_singleton]
       rintro (h | h)
       · exact HN.out h
       · exact hxc h)
      clear hxc
      go_wp2_with fail
      go_round
      case rel => exact ⟨k + 1, by go_num, by omega, HN2⟩
      case measure => simp [intOf]; omega
  · have FIN := hide (show (0 : Int) ≤ -1 ↔ c ∈ xs from ⟨fun h => by omega, fun h => by
     have := HN.out
     rw [List.take_of_length_le (by rw [hn.out]; omega)] at this
     exact absurd h this⟩)
    go_wp2_with fail
    go_ret
    exact ⟨⟨_, rfl, FIN.out⟩, rfl⟩
theorem contains_run (v : Value) (xs : List UInt8) (c : UInt8) (B : Bool) (w : World) (h : Sl w v xs.length (byV xs)) (hl : xs.length ≤ 1000) (hB : decide (c ∈ xs) = B) :
 Calls Tryz.prog 101 #[v, .int .u8 (c.toNat : Int)] w fun e w' => e = .returned (.bool B) ∧ w = w' := by
 have CI := hide (index_run v xs c w h hl)
 obtain ⟨A, cap, rfl, _, _, _⟩ := h
 clear hl
 go_enter Tryz.func101, Tryz.ntmps101
 go_wp2_with fail
 refine CI.out.mono ?_
 rintro e w' ⟨⟨k, rfl, hk⟩, rfl⟩
 have HK := hide (show decide (0 ≤ k) = B by rw [← hB]; exact decide_eq_decide.2 hk)
 clear hk hB
 go_wp2_with fail
 go_ret
 exact ⟨ret_bool HK.out, rfl⟩
def nowB (xs : List UInt8) (l : List UInt8) : Bool :=
 match l with
 | [] => false
 | c :: _ => decide (c ∈ xs)
structure JAt (s : ByteArray) (n : Nat) (l : List UInt8) : Prop where
 len : n + l.length = s.size
 rest : s.data.toList.drop n = l
theorem JAt.next {s : ByteArray} {n : Nat} {c : UInt8} {r : List UInt8} (h : JAt s n (c :: r)) : JAt s (n + 1) r :=
 ⟨by have := h.len; simp only [List.length_cons] at this; omega, (byte_at h.rest).2.2⟩
theorem JAt.le {s : ByteArray} {n : Nat} {l : List UInt8} (h : JAt s n l) : n ≤ s.size := by have := h.len; omega
set_option maxRecDepth 100000 in
set_option maxHeartbeats 1000000 in
theorem now_run (base rb : Nat) (s : ByteArray) (n : Nat) (l : List UInt8) (out : List Nd) (H : List Jh) (key : ByteArray) (e bad : Int) (w : World) (h : JR base rb s n out H key e bad w) (ha : JAt s n l)
 (v : Value) (xs : List UInt8) (hv : Sl w v xs.length (byV xs)) (hl : xs.length ≤ 1000) (B : Bool) (hB : nowB xs l = B) :
 Calls Tryz.prog 60 #[.pointer (some ⟨rb, 0, none⟩), v] w fun x w' => x = .returned (.bool B) ∧ Old w w' := by
 obtain ⟨ov, hv2, ⟨x0, x1, _, _, _, _, _⟩, hf, _, _⟩ := h.cells
 obtain ⟨hn, hd⟩ := ha
 obtain ⟨A, cap, rfl, _, _, _⟩ := id hv
 have HV := hide hv
 clear h hv
 cases l with
 | nil =>
   simp only [List.length_nil, Nat.add_zero] at hn
   have hq : ¬ (n : Int) < (s.size : Int) := by omega
   have hqd : decide ((n : Int) < (s.size : Int)) = false := decide_eq_false hq
   have hqn : decide (n < s.size) = false := decide_eq_false (by omega)
   have EB := hide (show false = B from hB)
   clear hn hd hB
   go_enter Tryz.func60, Tryz.ntmps60
   go_wp2_with fail
   go_quiet (fail)
   go_wp2_with fail
   go_ret
   exact ⟨ret_bool EB.out, Old.drewN (Old.refl _) _⟩
 | cons c r =>
   obtain ⟨b1, b2, b3⟩ := byte_at hd
   have bx : s[n] = c := by rw [get_at s b1, b2]
   have hq : (n : Int) < (s.size : Int) := by omega
   have hqd : decide ((n : Int) < (s.size : Int)) = true := decide_eq_true hq
   have hqn : decide (n < s.size) = true := decide_eq_true (by omega)
   have CC := hide (fun m => (contains_run (.slice A xs.length cap) xs c B (w.drewN m) (HV.out.old (Old.drewN (Old.refl _) m)) hl hB).mono fun e w' (h : e = .returned (.bool B) ∧ w.drewN m = w') => (show e = .returned (.bool B) ∧ w' = w.drewN m from ⟨h.1, h.2.symm⟩))
   clear hn hd b2 b3 hB
   go_enter Tryz.func60, Tryz.ntmps60
   go_wp2_with fail
   go_quiet ((go_at_call 101; exact Calls.quiet_of_same (CC.out _)))
   go_wp2_with fail
   go_ret
   exact ⟨rfl, Old.drewN (Old.refl _) _⟩
end Go.Proofs.YthlfljmfggmfdaaGreatDoor
namespace Go.Proofs.YthlfljmfggmfdaaGreatDoor
open Go.RowKit
theorem sl_bytes (w : World) (xs : List UInt8) (g : Nat) (hg : w.heap.size = g) (hl : xs.length ≤ 1000) : Sl (w.alloc (.cells (byV xs).toArray 5)) (.slice (some ⟨g, 0, none⟩) xs.length xs.length) xs.length (byV xs) := by
 refine ⟨_, _, rfl, Nat.le_refl _, by unfold maxLen; omega, fun _ => ⟨g, 0, rfl, fun j u hu => ?_⟩⟩
 rw [Nat.zero_add, cell_of_heap (heap_new _ _ _ hg)]
 simpa using hu
abbrev blW (w : World) : World := w.alloc (.cells #[.int .u8 32, .int .u8 9, .int .u8 10, .int .u8 13] 5 (4, 5))
theorem sl_blanks (w : World) : Sl (blW w).drew (.slice (some ⟨w.heap.size, 0, none⟩) 4 4) 4 (byV [32, 9, 10, 13]) := by
 have hh : (blW w).heap[w.heap.size]? = some (.cells #[.int .u8 32, .int .u8 9, .int .u8 10, .int .u8 13] 5 (4, 5)) := heap_alloc_new w _
 have h : Sl (blW w) (.slice (some ⟨w.heap.size, 0, none⟩) 4 4) 4 (byV [32, 9, 10, 13]) := by
  refine ⟨_, _, rfl, Nat.le_refl _, by unfold maxLen; omega, fun _ => ⟨w.heap.size, 0, rfl, fun j u hu => ?_⟩⟩
  rw [Nat.zero_add, cell_of_heap hh]
  match j, hu with
  | 0, hu => simpa [byV] using hu
  | 1, hu => simpa [byV] using hu
  | 2, hu => simpa [byV] using hu
  | 3, hu => simpa [byV] using hu
  | j + 4, hu => simp [byV] at hu
 exact h.old (Old.refl _).drew
theorem conv_blanks (w : World) : (convert 57 57 (.slice (some ⟨w.heap.size, 0, none⟩) 4 4)).run Tryz.prog (w.alloc (.cells #[.int .u8 32, .int .u8 9, .int .u8 10, .int .u8 13] 5)).drew = .ok (.slice (some ⟨w.heap.size, 0, none⟩) 4 4) (blW w).drew :=
 Lib.run_convert_bytes_const (P := Tryz.prog) w.drew 57 5 #[.int .u8 32, .int .u8 9, .int .u8 10, .int .u8 13] 4 4 Tryz.underlying57 Tryz.underlying5
def jLeft (rb : Nat) (s : ByteArray) (w : World) : Nat :=
 match w.cell? ⟨rb, 1, none⟩ with
 | some (.int _ k) => s.size + 1 - k.toNat
 | _ => 0
section
variable {base rb n : Nat} {s key : ByteArray} {out : List Nd} {H : List Jh} {e bad : Int} {w w' : World}
theorem JR.left (h : JR base rb s n out H key e bad w) : jLeft rb s w = s.size + 1 - n := by
 obtain ⟨ov, hv, ⟨x0, x1, _, _, _, _, _⟩, _⟩ := h.cells
 unfold jLeft
 rw [x1]
 simp
theorem skip_head {c : UInt8} {r : List UInt8} : skipB (c :: r) = if isBlank c then skipB r else c :: r := by simp [skipB]
theorem blank_mem (c : UInt8) : decide (c ∈ ([32, 9, 10, 13] : List UInt8)) = isBlank c := by
 unfold isBlank
 simp only [List.mem_cons, List.not_mem_nil, or_false]
 by_cases h1 : c = 32
 · subst h1; decide
 by_cases h2 : c = 9
 · subst h2; decide
 by_cases h3 : c = 10
 · subst h3; decide
 by_cases h4 : c = 13
 · subst h4; decide
 simp [h1, h2, h3, h4]
end
set_option maxRecDepth 100000 in
set_option maxHeartbeats 1000000 in
theorem blanks_run (base rb : Nat) (s : ByteArray) (n : Nat) (l : List UInt8) (out : List Nd) (H : List Jh) (key : ByteArray) (e bad : Int) (w : World) (h : JR base rb s n out H key e bad w) (ha : JAt s n l) (hs : s.size ≤ 1073741824) :
 Calls Tryz.prog 59 #[.pointer (some ⟨rb, 0, none⟩)] w fun x w' => x = .returned (.tuple #[]) ∧ (∃ m, JAt s m (skipB l) ∧ JR base rb s m out H key e bad w') ∧ RowKit.Below base w w' := by
 have HJ := hide h
 have HA := hide ha
 obtain ⟨L, hL⟩ : ∃ L, Hid (skipB l = L) := ⟨_, hide rfl⟩
 rw [hL.out]
 have hbw := hide (show base ≤ w.heap.size from Nat.le_trans h.low (Nat.le_of_lt h.lt))
 clear h ha
 go_enter Tryz.func59, Tryz.ntmps59
 go_wp2_with fail
 go_loopw [] (fun wr => ∃ (k : Nat) (q : List UInt8), Hid (JR base rb s k out H key e bad wr) ∧ Hid (JAt s k q) ∧ Hid (skipB q = L) ∧ Hid (RowKit.Below base w wr)) (fun wr => jLeft rb s wr)
 case atStart => exact ⟨n, l, HJ, HA, hL, hide (Below.refl _ _)⟩
 case round =>
  obtain ⟨k, q, HR, HQ, HS, HB⟩ := hrel
  obtain ⟨ov, hv, ⟨x0, x1, _, _, _, _, _⟩, hf, _, _⟩ := HR.out.cells
  have f1 := hf 1
  have hle := HQ.out.le
  have LF := hide HR.out.left
  clear hf
  cases q with
  | nil =>
    have hk : k = s.size := by have := HQ.out.len; simpa using this
    have hq : ¬ (k : Int) < (s.size : Int) := by omega
    have hqn : decide (k < s.size) = false := decide_eq_false (by omega)
    have FIN := hide (show ∃ m, JAt s m L ∧ JR base rb s m out H key e bad wr from ⟨k, by rw [← HS.out]; exact HQ.out, HR.out⟩)
    clear hk
    have y0 : ∀ p : Later wr, p.world.cell? ⟨rb, 0, none⟩ = some (.string s) := fun p => p.old.cell x0
    have y1 : ∀ p : Later wr, p.world.cell? ⟨rb, 1, none⟩ = some (.int .i64 (k : Int)) := fun p => p.old.cell x1
    go_wp2_with fail
    refine region_later (by kernel_rfl) (by kernel_rfl) ?_
    repeat (go_big_quiet_step (fail))
    refine wpQuiet_nil ?_
    rintro w2 ⟨⟨_, o2⟩, rfl⟩
    have O2 := hide (show RowKit.Below base w w2 from HB.out.trans (RowKit.Below.mono o2 (Nat.le_trans hbw.out HB.out.size)))
    obtain ⟨m, fm1, fm2⟩ := FIN.out
    have FF := hide (show ∃ m, JAt s m L ∧ JR base rb s m out H key e bad w2 from ⟨m, fm1, fm2.old o2⟩)
    clear o2 fm1 fm2 y0 y1
    go_wp2_with fail
    go_end0
    exact ⟨rfl, FF.out, O2.out⟩
  | cons c r =>
    obtain ⟨b1, b2, b3⟩ := byte_at HQ.out.rest
    have bx : s[k] = c := by rw [get_at s b1, b2]
    have hq : (k : Int) < (s.size : Int) := by omega
    have hqn : decide (k < s.size) = true := decide_eq_true b1
    have HN := hide HQ.out.next
    obtain ⟨B, hB⟩ : ∃ B, Hid (isBlank c = B) := ⟨_, hide rfl⟩
    have CC := hide (fun (w' : World) => contains_run (.slice (some ⟨w'.heap.size, 0, none⟩) 4 4) [32, 9, 10, 13] c B (blW w').drew (sl_blanks w') (by decide) (by rw [blank_mem]; exact hB.out))
    have y0 : ∀ w', Old wr w' → w'.cell? ⟨rb, 0, none⟩ = some (.string s) := fun w' o => o.cell x0
    have y1 : ∀ w', Old wr w' → w'.cell? ⟨rb, 1, none⟩ = some (.int .i64 (k : Int)) := fun w' o => o.cell x1
    have kc := conv_blanks wr
    clear b2 b3
    go_wp2_with fail
    go_region_held (fun w' => Old wr w')
     (first | assumption | (exact Old.drew (Old.refl _)) | (exact Old.alloc (Old.refl _) _) | (exact Old.drew (Old.alloc (Old.refl _) _)) | (exact Old.drew (Old.drew (Old.alloc (Old.refl _) _))))
     (first | (go_at_call 101; (with_reducible refine (CC.out _).mono ?_); rintro e w30 ⟨rfl, rfl⟩))
    all_goals
     have OB := hide (show Old wr (blW wr).drew from Old.drew (Old.alloc (Old.refl _) _))
     have JB := hide (HR.out.old OB.out)
     have BB := hide (HB.out.trans (RowKit.Below.mono OB.out (Nat.le_trans hbw.out HB.out.size)))
     clear CC y0 y1 kc
     cases B
     · have FIN := hide (show ∃ m, JAt s m L ∧ JR base rb s m out H key e bad (blW wr).drew from ⟨k, by rw [← HS.out, skip_head, hB.out]; exact HQ.out, JB.out⟩)
       go_wp2_with fail
       go_end0
       exact ⟨rfl, FIN.out, BB.out⟩
     · have J2 := hide (JB.out.setAt (k + 1) (z := (k : Int) + 1) (by simp))
       have B2 := hide (BB.out.trans (JB.out.keepAt 1 (.int .i64 ((k : Int) + 1))))
       have S2 := hide (show skipB r = L by rw [← HS.out, skip_head, hB.out]; rfl)
       obtain ⟨ov2, hv2, ⟨z0, z1, _, _, _, _, _⟩, zf, _, _⟩ := JB.out.cells
       have z2 := zf 1
       have ML := hide (show jLeft rb s ((blW wr).drew.setCell ⟨rb, 1, none⟩ (.int .i64 ((k : Int) + 1))) < jLeft rb s wr by rw [J2.out.left, LF.out]; omega)
       clear zf
       go_wp2_with fail
       go_roundw
       case rel => exact ⟨k + 1, r, J2, HN, S2, B2⟩
       case measure => exact ML.out
end Go.Proofs.YthlfljmfggmfdaaGreatDoor
