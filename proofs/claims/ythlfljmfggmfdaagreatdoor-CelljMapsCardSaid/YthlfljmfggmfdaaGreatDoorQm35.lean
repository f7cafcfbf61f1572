/- The reader of a literal: plain; utf.Unquote. -/
import Derived.Test.YthlfljmfggmfdaaGreatDoorQm34
import Derived.Test.YthlfljmfggmfdaaGreatDoorQm13
import Derived.Laws.Cover4
/-! ### The reader of a literal: plain; utf.Unquote. -/
namespace Go.Proofs.YthlfljmfggmfdaaGreatDoor
open Go.RowKit

def plR (l : List UInt8) : RSt := match plainV l with | .ok (_, r) => .ok r | .error c => .error c
def plT (l : List UInt8) : List UInt8 := match plainV l with | .ok (t, _) => t | .error _ => []
theorem ext_list (s : ByteArray) (n : Nat) : (s.extract n s.size).data.toList = s.data.toList.drop n := by
  rw [ByteArray.data_extract, Array.toList_extract]
  simp only [List.extract]
  rw [List.take_of_length_le]
  simp
theorem runeN_le {l : List UInt8} (h : l ≠ []) : runeN l ≤ l.length := by
  unfold runeN
  split
  · omega
  · have h1 := nextN_bd (txt l)
    have h2 := next_decode l h
    have e : bT l = txt l := rfl
    rename_i hne
    rw [e] at hne ⊢
    rw [if_neg hne] at h2
    rw [txt_size] at h1
    omega
set_option maxRecDepth 100000 in
set_option maxHeartbeats 1000000 in
theorem plain_run (rb : Nat) (s : ByteArray) (c : UInt8) (r : List UInt8) (w : World) (hs : s.size ≤ 1073741824) (h : Rd rb s (.ok (c :: r)) w) (hT : Tabs w) :
    Calls Tryz.prog 180 #[.pointer (some ⟨rb, 0, none⟩)] w fun e w' => e = .returned (.string (bT (plT (c :: r)))) ∧ Rd rb s (plR (c :: r)) w' ∧ One rb w w' := by
  have H := hide h
  obtain ⟨h1, h2, h3, k, e, h4, h5, h6⟩ := h
  obtain ⟨rfl, n, rfl, hn, hd⟩ := h6
  have hl := (ext_list s n).trans hd
  have hnlt : n < s.size := by simp only [List.length_cons] at hn; omega
  have hx0 : 0 < (s.extract n s.size).size := by rw [ByteArray.size_extract]; omega
  have hx1 : (s.extract n s.size).size = s.size - n := by rw [ByteArray.size_extract]; omega
  have x0 : (s.extract n s.size)[0]'hx0 = c := by
    have e1 : (s.extract n s.size)[0]'hx0 = (s.extract n s.size).data.toList[0]'(by simpa using hx0) := rfl
    rw [e1]
    simp only [hl]
    rfl
  obtain ⟨N, hN⟩ : ∃ N, Hid (runeN (c :: r) = N) := ⟨_, hide rfl⟩
  have hNle : N ≤ s.size - n := by rw [← hN.out]; have := runeN_le (l := c :: r) (by simp); omega
  have CN := hide (fun w' (o : Tabs w') => unext_run (s.extract n s.size) (c :: r) w' hl (by simp) o)
  rw [hN.out] at CN
  have HT := hide hT
  have PV : plainV (c :: r) = if c.toNat < 32 then .error 41 else if N ≠ 0 then .ok ((c :: r).take N, (c :: r).drop N) else if fullB (c :: r) = false then .error 3 else .error 40 := by
    rw [← hN.out]
    rfl
  have PV := hide PV
  have HN := hide hn
  have HD := hide hd
  have HL := hide hl
  have EF := hide (fun (x : Int) (hx : x ≠ 0) (hp : plainV (c :: r) = .error x) => (show plT (c :: r) = [] ∧ plR (c :: r) = .error x by unfold plT plR; rw [hp]; exact ⟨rfl, rfl⟩))
  have CF := hide (fun (x : Int) (hx : x ≠ 0) (hp : plainV (c :: r) = .error x) w' (rr : Rd rb s (.ok (c :: r)) w') (oo : One rb w w') => (rfail_run rb s (.ok (c :: r)) x w' rr hx).mono fun e w2 (hh : e = .returned (.tuple #[]) ∧ Rd rb s (failR x (.ok (c :: r))) w2 ∧ One rb w' w2) => (show e = .returned (.tuple #[]) ∧ Rd rb s (plR (c :: r)) w2 ∧ One rb w w2 from ⟨hh.1, by rw [(EF.out x hx hp).2]; exact hh.2.1, oo.trans hh.2.2⟩))
  have hin : (0 : Int) ≤ (n : Int) ∧ (n : Int) ≤ (s.size : Int) := by omega
  obtain ⟨hin1, hin2⟩ := hin
  clear hT hn hd hl
  by_cases h32 : c.toNat < 32
  · have h32' : (c.toNat : Int) < 32 := by omega
    have PF := hide (show plainV (c :: r) = .error 41 by rw [PV.out, if_pos h32])
    go_enter Tryz.func180, Tryz.ntmps180
    go_wp2_with fail
    go_quiet (fail)
    go_wp2_with fail
    refine (CN.out _ (HT.out.old (Old.drewN (Old.refl _) _))).mono ?_
    rintro e w1 ⟨⟨rr, rfl⟩, o1⟩
    have O1 := hide (Old.trans (Old.drewN (Old.refl w) _) o1)
    clear o1
    go_wp2_with fail
    refine (CF.out 41 (by decide) PF.out _ (H.out.old O1.out) ((One.refl _ _).old O1.out)).mono ?_
    rintro e w2 ⟨rfl, r2, o2⟩
    have R2 := hide r2
    have O2 := hide o2
    clear r2 o2
    go_wp2_with fail
    go_ret
    exact ⟨by rw [(EF.out 41 (by decide) PF.out).1]; rfl, R2.out, O2.out⟩
  · have h32' : ¬ (c.toNat : Int) < 32 := by omega
    by_cases hz : N ≠ 0
    · have PO := hide (show plT (c :: r) = (c :: r).take N ∧ plR (c :: r) = .ok ((c :: r).drop N) by
        unfold plT plR; rw [PV.out, if_neg h32, if_pos hz]; exact ⟨rfl, rfl⟩)
      have hzd : decide (N ≠ 0) = true := decide_eq_true hz
      have XT := hide (show (s.extract n s.size).extract 0 N = bT (plT (c :: r)) by
        rw [PO.out.1, ← HL.out]
        apply bytes_ext
        simp only [ByteArray.toList_eq, ByteArray.data_extract, bT, Array.toList_extract]
        simp [List.extract])
      have AT := hide (show StR s (plR (c :: r)) ((n : Int) + (N : Int)) 0 by
        rw [PO.out.2]
        refine ⟨rfl, n + N, by simp, ?_, ?_⟩
        · rw [List.length_drop]; have := HN.out; omega
        · rw [← HD.out, List.drop_drop])
      clear hz
      go_enter Tryz.func180, Tryz.ntmps180
      go_wp2_with fail
      go_quiet (fail)
      go_wp2_with fail
      refine (CN.out _ (HT.out.old (Old.drewN (Old.refl _) _))).mono ?_
      rw [hzd]
      rintro e w1 ⟨⟨rr, rfl⟩, o1⟩
      have O1 := hide (Old.trans (Old.drewN (Old.refl w) _) o1)
      have y4 := O1.out.cell h4
      have y2 := O1.out.frozen h4 h2
      have R1 := hide ((H.out.old O1.out).setAt (O1.out.cell h5) AT.out)
      clear o1
      go_wp2_with fail
      go_ret
      exact ⟨by rw [← XT.out]; rfl, R1.out, ((One.refl rb w).old O1.out).set _ _⟩
    · have hzd : decide (N ≠ 0) = false := decide_eq_false hz
      have FU := hide (fun w' (o : Tabs w') => full_run (s.extract n s.size) (c :: r) w' HL.out (by simp) (by omega) o)
      obtain ⟨B, hB⟩ : ∃ B, Hid (fullB (c :: r) = B) := ⟨_, hide rfl⟩
      rw [hB.out] at FU
      have PF := hide (show plainV (c :: r) = .error (if B = false then 3 else 40) by
        rw [PV.out, if_neg h32, if_neg hz, hB.out]; cases B <;> rfl)
      clear hz
      cases B
      · have PF := hide (show plainV (c :: r) = .error 3 from PF.out)
        go_enter Tryz.func180, Tryz.ntmps180
        go_wp2_with fail
        go_quiet (fail)
        go_wp2_with fail
        refine (CN.out _ (HT.out.old (Old.drewN (Old.refl _) _))).mono ?_
        rw [hzd]
        rintro e w1 ⟨⟨rr, rfl⟩, o1⟩
        have O1 := hide (Old.trans (Old.drewN (Old.refl w) _) o1)
        clear o1
        go_wp2_with fail
        refine (FU.out _ (HT.out.old O1.out)).mono ?_
        rintro e w2 ⟨rfl, o2⟩
        have O2 := hide (Old.trans O1.out o2)
        clear o2
        go_wp2_with fail
        refine (CF.out 3 (by decide) PF.out _ (H.out.old O2.out) ((One.refl _ _).old O2.out)).mono ?_
        rintro e w3 ⟨rfl, r3, o3⟩
        have R3 := hide r3
        have O3 := hide o3
        clear r3 o3
        go_wp2_with fail
        go_ret
        exact ⟨by rw [(EF.out 3 (by decide) PF.out).1]; rfl, R3.out, O3.out⟩
      · have PF := hide (show plainV (c :: r) = .error 40 from PF.out)
        go_enter Tryz.func180, Tryz.ntmps180
        go_wp2_with fail
        go_quiet (fail)
        go_wp2_with fail
        refine (CN.out _ (HT.out.old (Old.drewN (Old.refl _) _))).mono ?_
        rw [hzd]
        rintro e w1 ⟨⟨rr, rfl⟩, o1⟩
        have O1 := hide (Old.trans (Old.drewN (Old.refl w) _) o1)
        clear o1
        go_wp2_with fail
        refine (FU.out _ (HT.out.old O1.out)).mono ?_
        rintro e w2 ⟨rfl, o2⟩
        have O2 := hide (Old.trans O1.out o2)
        clear o2
        go_wp2_with fail
        refine (CF.out 40 (by decide) PF.out _ (H.out.old O2.out) ((One.refl _ _).old O2.out)).mono ?_
        rintro e w3 ⟨rfl, r3, o3⟩
        have R3 := hide r3
        have O3 := hide o3
        clear r3 o3
        go_wp2_with fail
        go_ret
        exact ⟨by rw [(EF.out 40 (by decide) PF.out).1]; rfl, R3.out, O3.out⟩
end Go.Proofs.YthlfljmfggmfdaaGreatDoor

/-! ### utf.Unquote. -/
namespace Go.Proofs.YthlfljmfggmfdaaGreatDoor
open Go.RowKit

/-- how far a reader has to go -/
def rdLeft (rb : Nat) (s : ByteArray) (w : World) : Nat :=
  match w.cell? ⟨rb, 1, none⟩, w.cell? ⟨rb, 2, none⟩ with
  | some (.int _ k), some (.int _ e) => if e = 0 then s.size + 1 - k.toNat else 0
  | _, _ => 0
theorem rdLeft_err {rb : Nat} {s : ByteArray} {c : Int} {w : World} (h : Rd rb s (.error c) w) : rdLeft rb s w = 0 := by
  obtain ⟨_, _, _, k, e, h4, h5, h6, h7⟩ := h
  unfold rdLeft
  subst h6
  rw [h4, h5]
  simp [h7]
theorem rdLeft_ok {rb : Nat} {s : ByteArray} {l : List UInt8} {w : World} (h : Rd rb s (.ok l) w) : rdLeft rb s w = l.length + 1 := by
  obtain ⟨_, _, _, k, e, h4, h5, h6, n, rfl, h7, _⟩ := h
  unfold rdLeft
  subst h6
  rw [h4, h5]
  simp
  omega
theorem WBs.one {T : TypeId} {B b rb : Nat} {l : List UInt8} {w w' : World} (h : WBs T B b l w) (o : One rb w w') (hrb : rb < B) : WBs T B b l w' := by
  have go : ∀ p, Lib.BuilderAtF T 5 B b p (Lib.byteCells l) w → Lib.BuilderAtF T 5 B b p (Lib.byteCells l) w' := by
    rintro p ⟨hB, v, hb, hown, hne⟩
    refine ⟨hB, v, o.heap hb (by omega), ⟨hown.1, ?_⟩, hne⟩
    rcases hown.2 with h | ⟨g, cap, cur, fz, hv, hg, hh, r⟩
    · exact .inl h
    · exact .inr ⟨g, cap, cur, fz, hv, hg, o.heap hh (by omega), r⟩
  exact h.imp (go _) (go _)
theorem Rd.below {rb B : Nat} {s : ByteArray} {σ : RSt} {w w' : World} (h : Rd rb s σ w) (k : RowKit.Below B w w') (hB : rb < B) : Rd rb s σ w' := by
  obtain ⟨h1, h2, h3, a, e, h4, h5, h6⟩ := h
  exact ⟨(k.cell hB).trans h1, (k.frozen hB).trans h2, (k.frozen hB).trans h3, a, e, (k.cell hB).trans h4, (k.cell hB).trans h5, h6⟩
/-- what a literal's reading comes to, from a place on, behind what has been read -/
def unqOn (acc : List UInt8) : RSt → Except Int (List UInt8 × List UInt8)
  | .error c => .error c
  | .ok l => match unqB (l.length + 1) l with
    | .error c => .error c
    | .ok (u, r) => .ok (acc ++ u, r)
theorem unqOn_end (acc r : List UInt8) : unqOn acc (.ok (34 :: r)) = .ok (acc, r) := by simp [unqOn, unqB]
def pcR (l : List UInt8) : RSt := match pieceV l with | .ok (_, r) => .ok r | .error c => .error c
def pcT (l : List UInt8) : List UInt8 := match pieceV l with | .ok (t, _) => t | .error _ => []
theorem unqOn_piece (acc : List UInt8) {c : UInt8} (r : List UInt8) (hc : c ≠ 34) : unqOn acc (.ok (c :: r)) = unqOn (acc ++ pcT (c :: r)) (pcR (c :: r)) := by
  unfold pcT pcR
  simp only [unqOn, List.length_cons, unqB, if_neg hc]
  cases hp : pieceV (c :: r) with
  | error e => rfl
  | ok x =>
    obtain ⟨t, r1⟩ := x
    have h1 := pieceV_less hp
    simp only [List.length_cons] at h1
    simp only
    rw [unqB_more (r.length + 1) (r1.length + 1) r1 (by omega) (by omega)]
    cases unqB (r1.length + 1) r1 with
    | error e => rfl
    | ok y => simp [List.append_assoc]
theorem pcR_less {l r : List UInt8} (h : pcR l = .ok r) : r.length < l.length := by
  unfold pcR at h
  cases hp : pieceV l with
  | error e => rw [hp] at h; cases h
  | ok x =>
    obtain ⟨t, r1⟩ := x
    rw [hp] at h
    injection h with h
    subst h
    exact pieceV_less hp
theorem pc_esc (r : List UInt8) : pcR (92 :: r) = escR r ∧ pcT (92 :: r) = escT r := by
  have e : pieceV (92 :: r) = escV r := by
    show (if (92 : UInt8) = 92 then escV r else plainV (92 :: r)) = escV r
    exact if_pos rfl
  unfold pcR pcT escR escT
  rw [e]
  exact ⟨rfl, rfl⟩
theorem pc_plain {c : UInt8} (r : List UInt8) (hc : c ≠ 92) : pcR (c :: r) = plR (c :: r) ∧ pcT (c :: r) = plT (c :: r) := by
  have e : pieceV (c :: r) = plainV (c :: r) := by
    show (if c = 92 then escV r else plainV (c :: r)) = plainV (c :: r)
    exact if_neg hc
  unfold pcR pcT plR plT
  rw [e]
  exact ⟨rfl, rfl⟩
/-- the state behind the first byte -/
theorem unq_start (l : List UInt8) : unqV l = unqOn [] (wantR 34 (.ok l)) := by
  cases l with
  | nil => rfl
  | cons c r =>
    simp only [unqV, wantR, want1]
    by_cases h : c = 34
    · rw [if_neg (fun x => x h), if_pos h]
      simp only [unqOn, List.nil_append]
      cases unqB (r.length + 1) r with
      | error e => rfl
      | ok x => rfl
    · rw [if_pos h, if_neg h]
      rfl
/-- what Unquote hands back -/
def unqE (n : Nat) : Except Int (List UInt8 × List UInt8) → Value
  | .error c => .tuple #[.string ⟨#[]⟩, .int .i64 0, .int .i64 c]
  | .ok (t, r) => .tuple #[.string (bT t), .int .i64 ((n - r.length : Nat) : Int), .int .i64 0]

theorem rd_new (s : ByteArray) (w : World) : Rd w.heap.size s (.ok s.data.toList) (w.alloc (.cells #[.string s, .int .i64 0, .int .i64 0] 221)) := by
  have hh := heap_alloc_new w (.cells #[.string s, .int .i64 0, .int .i64 0] 221)
  exact ⟨(cell_of_heap hh).trans rfl, free_of_heap hh, free_of_heap hh, 0, 0, (cell_of_heap hh).trans rfl, (cell_of_heap hh).trans rfl, rfl, 0, rfl, by simp, rfl⟩
theorem list_size (b : ByteArray) : b.data.toList.length = b.size := by cases b; simp [ByteArray.size]
theorem encL_def (n : Nat) : encL n = (Utf8.encode (n : Int)).data.toList := by rw [encL]
theorem size_of_eq {b : ByteArray} {l : List UInt8} (h : l = b.data.toList) (hb : b.size ≤ 4) : l.length ≤ 4 := by
  subst h
  rw [list_size]
  exact hb
theorem encL_len (n : Nat) : (encL n).length ≤ 4 := size_of_eq (encL_def n) (encode_size_le _)
theorem escV_len {l r t : List UInt8} (h : escV l = .ok (t, r)) : t.length ≤ 4 := by
  cases l with
  | nil => cases h
  | cons c l =>
    simp only [escV] at h
    split at h
    · injection h with h; injection h with h _; subst h; decide
    split at h
    · injection h with h; injection h with h _; subst h; exact encL_len _
    split at h
    · cases h
    split at h
    · cases h
    split at h
    · split at h
      · cases h
      split at h
      · cases h
      split at h
      · cases h
      injection h with h; injection h with h _; subst h
      exact encL_len _
    · injection h with h; injection h with h _; subst h
      exact encL_len _
theorem plainV_len {l r t : List UInt8} (h : plainV l = .ok (t, r)) : t.length ≤ 4 := by
  cases l with
  | nil => cases h
  | cons c l =>
    simp only [plainV] at h
    split at h
    · cases h
    split at h
    · injection h with h; injection h with h _; subst h
      have h4 : runeN (c :: l) ≤ 4 := by
        unfold runeN
        split
        · omega
        · rename_i hne
          have h2 := next_decode (c :: l) (by simp)
          have e : bT (c :: l) = txt (c :: l) := rfl
          rw [e] at hne ⊢
          rw [if_neg hne] at h2
          have := nextN_four (txt (c :: l))
          omega
      rw [List.length_take]
      omega
    · split at h <;> cases h
theorem pcT_len (l : List UInt8) : (pcT l).length ≤ 4 := by
  unfold pcT
  cases hp : pieceV l with
  | error e => simp
  | ok x =>
    obtain ⟨t, r1⟩ := x
    simp only
    cases l with
    | nil => cases hp
    | cons c l =>
      simp only [pieceV] at hp
      split at hp
      · exact escV_len hp
      · exact plainV_len hp
/-- a builder, and all that was there before it -/
structure SBw (B : Nat) (acc : List UInt8) (w w' : World) : Prop where
  low : RowKit.Below B w w'
  has : WBs 91 B B acc w'
  size : B ≤ w'.heap.size
theorem WBs.drew {T : TypeId} {B b : Nat} {l : List UInt8} {w : World} (h : WBs T B b l w) : WBs T B b l w.drew := h
theorem SBw.drew {B : Nat} {acc : List UInt8} {w w' : World} (h : SBw B acc w w') : SBw B acc w w'.drew := ⟨h.low.drew, WBs.drew h.has, h.size⟩
theorem wb_String_any (B : Nat) (l : List UInt8) (w0 w : World) (h : SBw B l w0 w) :
    Calls Tryz.prog 58 #[.pointer (some ⟨B, 0, none⟩)] w fun e w' => e = .returned (.string ⟨l.toArray⟩) ∧ SBw B l w0 w' :=
  (Tryz.Builder_String_any_k B B l w h.has h.size).mono fun _ _ hh => ⟨hh.1, h.low.trans hh.2.2.1, hh.2.1, Nat.le_trans h.size hh.2.2.1.size⟩
set_option maxRecDepth 100000 in
set_option maxHeartbeats 4000000 in
theorem unquote_run (s : ByteArray) (w : World) (hs : s.size ≤ 1073741824) (hT : Tabs w) :
    Calls Tryz.prog 125 #[.string s] w fun e w' => e = .returned (unqE s.size (unqV s.data.toList)) ∧ Old w w' := by
  obtain ⟨rb, hrb⟩ : ∃ rb, w.heap.size = rb := ⟨_, rfl⟩
  have HT := hide hT
  have CW := hide (want_run rb s (.ok s.data.toList) 34 (w.alloc (.cells #[.string s, .int .i64 0, .int .i64 0] 221)) hs (by rw [← hrb]; exact rd_new s w))
  have HRB := hide hrb
  rw [unq_start]
  obtain ⟨RES, hRES⟩ : ∃ x, Hid (unqOn [] (wantR 34 (.ok s.data.toList)) = x) := ⟨_, hide rfl⟩
  rw [hRES.out]
  clear hT
  go_enter Tryz.func125, Tryz.ntmps125
  go_wp2_with fail
  refine CW.out.mono ?_
  rintro e w1 ⟨rfl, r1, o1⟩
  have R1 := hide r1
  have O1 := hide (show Old w w1 from One.to_old (Old.alloc (Old.refl w) _) o1 (by rw [HRB.out]; omega))
  have hrb1 : rb < w1.heap.size := by have := o1.size; rw [World.size_alloc, HRB.out] at this; omega
  clear r1 o1 CW hrb
  have W1 := hide (show WBs 91 w1.heap.size w1.heap.size [] (w1.alloc (.cells #[.pointer none, .slice none 0 0] 91)) from Lib.IsBuilderF.of (Lib.fresh_isBuilder _ _ w1))
  have R2 := hide (R1.out.old (Old.alloc (Old.refl _) (.cells #[.pointer none, .slice none 0 0] 91)))
  have O2 := hide (Old.trans O1.out (Old.alloc (Old.refl _) (.cells #[.pointer none, .slice none 0 0] 91)))
  have hBrb := hrb1
  have hBw := hide (show w1.heap.size ≤ (w1.alloc (.cells #[.pointer none, .slice none 0 0] 91)).heap.size by rw [World.size_alloc]; omega)
  have hwB := hide (show w.heap.size ≤ w1.heap.size by rw [HRB.out]; omega)
  obtain ⟨σ0, hσ0⟩ : ∃ x, Hid (wantR 34 (.ok s.data.toList) = x) := ⟨_, hide rfl⟩
  rw [hσ0.out] at hRES R2
  have INI := hide (show ∀ l, σ0 = .ok l → ([] : List UInt8).length + 4 * l.length ≤ 4 * s.size from fun l hl => by
    have h1 := R2.out.st
    rw [hl] at h1
    obtain ⟨_, _, _, _, _, n, _, h2, _⟩ := h1
    simp only [List.length_nil]
    omega)
  clear R1 O1 hrb1 hσ0
  go_wp2_with fail
  go_loopw [] (fun wr => ∃ (σ : RSt) (acc : List UInt8), Hid (Rd rb s σ wr) ∧ Hid (WBs 91 w1.heap.size w1.heap.size acc wr) ∧ Hid (Old w wr) ∧ Hid (w1.heap.size ≤ wr.heap.size) ∧ Hid (unqOn acc σ = RES) ∧ Hid (∀ l, σ = .ok l → acc.length + 4 * l.length ≤ 4 * s.size)) (fun wr => rdLeft rb s wr)
  case atStart => exact ⟨_, _, R2, W1, O2, hBw, hRES, INI⟩
  case round =>
    obtain ⟨σ, acc, HR, HW, HO, HB, HU, HA⟩ := hrel
    have RR := HR.out
    obtain ⟨x0, f1, f2, k, er, x1, x2, hst⟩ := RR
    cases σ with
    | error c =>
      obtain ⟨rfl, hc0⟩ := hst
      have hc0' : (er == 0) = false := beq_eq_false_iff_ne.2 hc0
      have FIN := hide (show RES = .error er from HU.out.symm)
      clear hc0
      go_wp2_with fail
      go_quiet (fail)
      go_wp2_with fail
      go_ret3
      exact ⟨by rw [FIN.out]; rfl, HO.out.drewN _⟩
    | ok l =>
      obtain ⟨rfl, n, rfl, hn, hd⟩ := hst
      have LEFT := hide (rdLeft_ok HR.out)
      cases l with
      | nil =>
        simp only [List.length_nil, Nat.add_zero] at hn
        have hq : ((n : Int) == (s.size : Int)) = true := by rw [hn]; simp
        have CF := hide (rfail_run rb s (.ok []) 3 wr HR.out (by decide))
        clear hn hd
        go_wp2_with fail
        refine CF.out.mono ?_
        rintro e w5 ⟨rfl, r5, o5⟩
        have R5 := hide r5
        have W5 := hide (WBs.one HW.out o5 hBrb)
        have O5 := hide (One.to_old HO.out o5 (by rw [HRB.out]; omega))
        have B5 := hide (Nat.le_trans HB.out o5.size)
        clear r5 o5
        go_wp2_with fail
        go_roundw
        case rel => exact ⟨.error 3, acc, R5, W5, O5, B5, hide HU.out, hide (fun l hl => by cases hl)⟩
        case measure => rw [LEFT.out, rdLeft_err R5.out]; omega
      | cons c r =>
        obtain ⟨b1, b2, b3⟩ := byte_at hd
        have hq : ((n : Int) == (s.size : Int)) = false := beq_eq_false_iff_ne.2 (by omega)
        have bx : s[n] = c := by rw [get_at s b1, b2]
        have HN := hide hn
        have HD := hide hd
        have hnlt : n < s.size := b1
        have hrn : n + 1 + r.length = s.size := by simp only [List.length_cons] at hn; omega
        clear hn hd b2 b3
        by_cases h34 : c = 34
        · have q34 : ((c.toNat : Int) == 34) = true := by rw [h34]; rfl
          have FIN := hide (show RES = .ok (acc, r) by rw [← HU.out, h34, unqOn_end])
          have CS := hide (fun w' (k : SBw w1.heap.size acc wr w') => wb_String_any w1.heap.size acc wr w' k)
          have S0 : SBw w1.heap.size acc wr wr := ⟨Below.refl _ _, HW.out, HB.out⟩
          have hy1 : ∀ w', SBw w1.heap.size acc wr w' → w'.cell? ⟨rb, 1, none⟩ = some (.int .i64 n) := fun w' k => (k.low.cell hBrb).trans x1
          have hwn : IntKind.i64.wrap ((n : Int) + 1) = (n : Int) + 1 := IntWalk.i64_in _ (by omega)
          clear h34
          go_wp2_with fail
          go_region_held3 (fun w' => SBw w1.heap.size acc wr w')
            (first | assumption | (exact SBw.drew (by assumption)))
            (first | (go_at_call 58; (with_reducible refine (CS.out _ (by assumption)).mono ?_); rintro e w30 ⟨rfl, s30⟩))
          have OF := hide (show Old w w30 from Below.trans HO.out (RowKit.Below.mono s30.low hwB.out))
          have EN := hide (show ((n : Int) + 1) = ((s.size - r.length : Nat) : Int) by omega)
          clear hy1 S0
          go_wp2_with fail
          go_ret3
          exact ⟨by rw [FIN.out]; simp only [unqE]; rw [← EN.out]; rfl, OF.out⟩
        · have q34 : ((c.toNat : Int) == 34) = false := by
            have : c.toNat ≠ 34 := fun e => h34 (UInt8.toNat_inj.1 e)
            simp; omega
          have UP := hide (unqOn_piece acc r h34)
          have PL := hide (pcT_len (c :: r))
          have hacc : acc.length + 4 * (r.length + 1) ≤ 4 * s.size := by have := HA.out (c :: r) rfl; simpa using this
          have NXT := hide (show ∀ l, pcR (c :: r) = .ok l → (acc ++ pcT (c :: r)).length + 4 * l.length ≤ 4 * s.size from fun l hl => by
            have h1 := pcR_less hl
            have h2 := PL.out
            simp only [List.length_cons] at h1
            rw [List.length_append]
            omega)
          have MES := hide (show ∀ w', Rd rb s (pcR (c :: r)) w' → rdLeft rb s w' < rdLeft rb s wr from fun w' h' => by
            rw [LEFT.out]
            cases hp : pcR (c :: r) with
            | error e => rw [hp] at h'; rw [rdLeft_err h']; omega
            | ok l => rw [hp] at h'; rw [rdLeft_ok h']; have := pcR_less hp; omega)
          have CWS := hide (fun w' (hw : WBs 91 w1.heap.size w1.heap.size acc w') (hb : w1.heap.size ≤ w'.heap.size) => wb_WriteString 91 (.inl rfl) w1.heap.size w1.heap.size acc (bT (pcT (c :: r))) w' hw (by have := PL.out; rw [bT_size]; omega) hb)
          have hbt : (bT (pcT (c :: r))).data.toList = pcT (c :: r) := by simp [bT]
          have HBT := hide hbt
          clear hbt
          by_cases h92 : c = 92
          · have q92 : ((c.toNat : Int) == 92) = true := by rw [h92]; rfl
            have PE := hide (show pcR (c :: r) = escR r ∧ pcT (c :: r) = escT r by rw [h92]; exact pc_esc r)
            have R5 := hide (HR.out.setAt (τ := .ok r) x2 (StR.next (n := n) HN.out HD.out))
            have CE := hide (escape_run rb s r _ hs R5.out)
            unfold EscE at CE
            rw [← PE.out.1, ← PE.out.2] at CE
            clear h92 h34
            go_wp2_with fail
            refine CE.out.mono ?_
            rintro e w6 ⟨rfl, r6, o6⟩
            have R6 := hide r6
            have OO := hide (((One.refl rb wr).set 1 (.int .i64 ((n : Int) + 1))).trans o6)
            have W6 := hide (WBs.one HW.out OO.out hBrb)
            have B6 := hide (Nat.le_trans HB.out OO.out.size)
            have O6 := hide (One.to_old HO.out OO.out (by rw [HRB.out]; omega))
            clear r6 o6
            go_wp2_with fail
            refine (CWS.out w6 W6.out B6.out).mono ?_
            rintro e w7 ⟨rfl, h7, k7⟩
            have W7 := hide (show WBs 91 w1.heap.size w1.heap.size (acc ++ pcT (c :: r)) w7 by rw [← HBT.out]; exact h7)
            have R7 := hide (R6.out.below k7.below hBrb)
            have B7 := hide (Nat.le_trans B6.out k7.below.size)
            have O7 := hide (show Old w w7 from Below.trans O6.out (RowKit.Below.mono k7.below hwB.out))
            clear h7 k7
            go_wp2_with fail
            go_roundw
            case rel => exact ⟨_, _, R7, W7, O7, B7, hide (UP.out.symm.trans HU.out), NXT⟩
            case measure => exact MES.out w7 R7.out
          · have q92 : ((c.toNat : Int) == 92) = false := by
              have : c.toNat ≠ 92 := fun e => h92 (UInt8.toNat_inj.1 e)
              simp; omega
            have PE := hide (pc_plain r h92)
            have CE := hide (plain_run rb s c r wr hs HR.out (HT.out.old HO.out))
            rw [← PE.out.1, ← PE.out.2] at CE
            clear h92 h34
            go_wp2_with fail
            refine CE.out.mono ?_
            rintro e w6 ⟨rfl, r6, o6⟩
            have R6 := hide r6
            have W6 := hide (WBs.one HW.out o6 hBrb)
            have B6 := hide (Nat.le_trans HB.out o6.size)
            have O6 := hide (One.to_old HO.out o6 (by rw [HRB.out]; omega))
            clear r6 o6
            go_wp2_with fail
            refine (CWS.out w6 W6.out B6.out).mono ?_
            rintro e w7 ⟨rfl, h7, k7⟩
            have W7 := hide (show WBs 91 w1.heap.size w1.heap.size (acc ++ pcT (c :: r)) w7 by rw [← HBT.out]; exact h7)
            have R7 := hide (R6.out.below k7.below hBrb)
            have B7 := hide (Nat.le_trans B6.out k7.below.size)
            have O7 := hide (show Old w w7 from Below.trans O6.out (RowKit.Below.mono k7.below hwB.out))
            clear h7 k7
            go_wp2_with fail
            go_roundw
            case rel => exact ⟨_, _, R7, W7, O7, B7, hide (UP.out.symm.trans HU.out), NXT⟩
            case measure => exact MES.out w7 R7.out
end Go.Proofs.YthlfljmfggmfdaaGreatDoor
