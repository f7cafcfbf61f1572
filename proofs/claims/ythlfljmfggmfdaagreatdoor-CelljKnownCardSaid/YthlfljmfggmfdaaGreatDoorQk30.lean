/-  -/
import Derived.Test.YthlfljmfggmfdaaGreatDoorQk04
import Derived.Test.YthlfljmfggmfdaaGreatDoorQk08
import Derived.Test.YthlfljmfggmfdaaGreatDoorQk07
import Derived.Deep.RegionHeld3
import Derived.IntWalk
import Derived.Laws.BitsLemmas
import Derived.Deep.DeepCutAuto
/-! ###  -/
namespace Go.Proofs.YthlfljmfggmfdaaGreatDoor
open Go.RowKit
structure One (p : Nat) (w w' : World) : Prop where
 os : w'.os = w.os
 tape : w'.tape = w.tape
 output : w'.output = w.output
 size : w.heap.size ≤ w'.heap.size
 block : ∀ k, k < w.heap.size → k ≠ p → w'.heap[k]? = w.heap[k]?
namespace One
variable {p : Nat} {a b c : World}
theorem refl (p : Nat) (w : World) : One p w w := ⟨rfl, rfl, rfl, Nat.le_refl _, fun _ _ _ => rfl⟩
theorem trans (h : One p a b) (k : One p b c) : One p a c :=
 ⟨k.os.trans h.os, k.tape.trans h.tape, k.output.trans h.output, Nat.le_trans h.size k.size, fun i h1 h2 => (k.block i (Nat.lt_of_lt_of_le h1 h.size) h2).trans (h.block i h1 h2)⟩
theorem old (h : One p a b) (k : Old b c) : One p a c :=
 ⟨k.os.trans h.os, k.tape.trans h.tape, k.output.trans h.output, Nat.le_trans h.size k.size, fun i h1 h2 => (k.block i (Nat.lt_of_lt_of_le h1 h.size)).trans (h.block i h1 h2)⟩
theorem after (h : Old a b) (k : One p b c) : One p a c :=
 ⟨k.os.trans h.os, k.tape.trans h.tape, k.output.trans h.output, Nat.le_trans h.size k.size, fun i h1 h2 => (k.block i (Nat.lt_of_lt_of_le h1 h.size) h2).trans (h.block i h1)⟩
theorem set (h : One p a b) (o : Nat) (v : Value) : One p a (b.setCell ⟨p, o, none⟩ v) :=
 ⟨h.os, h.tape, h.output, by simpa using h.size, fun i h1 h2 => by rw [← h.block i h1 h2]; simp [World.setCell, Array.getElem?_modify, Ne.symm h2]⟩
theorem drew (h : One p a b) : One p a b.drew := ⟨h.os, h.tape, h.output, h.size, h.block⟩
theorem drewN (h : One p a b) (n : Nat) : One p a (b.drewN n) := ⟨h.os, h.tape, h.output, h.size, h.block⟩
theorem heap {k : Nat} {o : Obj} (h : One p a b) (hk : a.heap[k]? = some o) (hne : k ≠ p) : b.heap[k]? = some o := (h.block k (block_lt hk) hne).trans hk
theorem cell {q : Addr} {v : Value} (h : One p a b) (hc : a.cell? q = some v) (hne : q.block ≠ p) : b.cell? q = some v := by
 have hlt := World.block_lt_of_cell? a q hc
 unfold World.cell? at *
 rw [h.block _ hlt hne]
 exact hc
theorem below {B : Nat} (h : One p a b) (hB : B ≤ p) (hs : B ≤ a.heap.size) : RowKit.Below B a b :=
 ⟨h.os, h.tape, h.output, h.size, fun i hi => h.block i (Nat.lt_of_lt_of_le hi hs) (by omega)⟩
theorem to_old {w0 : World} (k : Old w0 a) (h : One p a b) (hB : w0.heap.size ≤ p) : Old w0 b := Below.trans k (h.below hB k.size)
end One
abbrev RSt := Except Int (List UInt8)
def StR (s : ByteArray) (σ : RSt) (k e : Int) : Prop :=
 match σ with
 | .error c => e = c ∧ c ≠ 0
 | .ok l => e = 0 ∧ ∃ n : Nat, k = n ∧ n + l.length = s.size ∧ s.data.toList.drop n = l
structure Rd (rb : Nat) (s : ByteArray) (σ : RSt) (w : World) : Prop where
 text : w.cell? ⟨rb, 0, none⟩ = some (.string s)
 free1 : w.frozen? ⟨rb, 1, none⟩ = false
 free2 : w.frozen? ⟨rb, 2, none⟩ = false
 st : ∃ k e : Int, w.cell? ⟨rb, 1, none⟩ = some (.int .i64 k) ∧ w.cell? ⟨rb, 2, none⟩ = some (.int .i64 e) ∧ StR s σ k e
theorem Rd.old {rb : Nat} {s : ByteArray} {σ : RSt} {w w' : World} (h : Rd rb s σ w) (o : Old w w') : Rd rb s σ w' := by
 obtain ⟨h1, h2, h3, k, e, h4, h5, h6⟩ := h
 exact ⟨o.cell h1, o.frozen h4 h2, o.frozen h5 h3, k, e, o.cell h4, o.cell h5, h6⟩
theorem Rd.setE {rb : Nat} {s : ByteArray} {σ τ : RSt} {w : World} (h : Rd rb s σ w) {k : Int} (hk : w.cell? ⟨rb, 1, none⟩ = some (.int .i64 k)) {e : Int} (he : StR s τ k e) : Rd rb s τ (w.setCell ⟨rb, 2, none⟩ (.int .i64 e)) := by
 obtain ⟨h1, h2, h3, k', e', h4, h5, h6⟩ := h
 refine ⟨?_, by rw [World.frozen?_setCell]; exact h2, by rw [World.frozen?_setCell]; exact h3, k, e, ?_, World.cell?_setCell_same _ _ _ h5, he⟩
 · rw [World.cell?_setCell_other _ _ _ _ (by simp)]; exact h1
 · rw [World.cell?_setCell_other _ _ _ _ (by simp)]; exact hk
theorem Rd.setAt {rb : Nat} {s : ByteArray} {σ τ : RSt} {w : World} (h : Rd rb s σ w) {e : Int} (hk : w.cell? ⟨rb, 2, none⟩ = some (.int .i64 e)) {k : Int} (he : StR s τ k e) : Rd rb s τ (w.setCell ⟨rb, 1, none⟩ (.int .i64 k)) := by
 obtain ⟨h1, h2, h3, k', e', h4, h5, h6⟩ := h
 refine ⟨?_, by rw [World.frozen?_setCell]; exact h2, by rw [World.frozen?_setCell]; exact h3, k, e, World.cell?_setCell_same _ _ _ h4, ?_, he⟩
 · rw [World.cell?_setCell_other _ _ _ _ (by simp)]; exact h1
 · rw [World.cell?_setCell_other _ _ _ _ (by simp)]; exact hk
def failR (c : Int) : RSt → RSt
 | .ok _ => .error c
 | .error e => .error e
theorem failR_err (c e : Int) : failR c (.error e) = .error e := rfl
set_option maxRecDepth 100000 in
theorem rfail_run (rb : Nat) (s : ByteArray) (σ : RSt) (c : Int) (w : World) (h : Rd rb s σ w) (hc : c ≠ 0) :
 Calls Tryz.prog 178 #[.pointer (some ⟨rb, 0, none⟩), .int .i64 c] w fun e w' => e = .returned (.tuple #[]) ∧ Rd rb s (failR c σ) w' ∧ One rb w w' := by
 have H := hide h
 obtain ⟨_, h2, h3, k, e, h4, h5, h6⟩ := h
 cases σ with
 | error d =>
   obtain ⟨rfl, hd⟩ := h6
   have hd' : (e == 0) = false := beq_eq_false_iff_ne.2 hd
   clear hd
   go_enter Tryz.func178, Tryz.ntmps178
   go_wp2_with fail
   go_end0
   exact ⟨rfl, H.out, One.refl _ _⟩
 | ok l =>
   obtain ⟨rfl, _⟩ := h6
   have FIN := hide (H.out.setE (τ := .error c) h4 ⟨rfl, hc⟩)
   clear hc
   go_enter Tryz.func178, Tryz.ntmps178
   go_wp2_with fail
   go_end0
   exact ⟨rfl, FIN.out, (One.refl _ _).set _ _⟩
def takeV : RSt → UInt8
 | .ok (c :: _) => c
 | _ => 0
def takeR : RSt → RSt
 | .error e => .error e
 | .ok [] => .error 3
 | .ok (_ :: r) => .ok r
theorem byte_at {s : ByteArray} {n : Nat} {c : UInt8} {r : List UInt8} (h : s.data.toList.drop n = c :: r) : n < s.size ∧ s.get! n = c ∧ s.data.toList.drop (n + 1) = r := by
 have hl : n < s.data.toList.length := by
  rcases Nat.lt_or_ge n s.data.toList.length with h1 | h1
  · exact h1
  · rw [List.drop_eq_nil_of_le h1] at h
    cases h
 have hs : n < s.size := by simpa using hl
 rw [List.drop_eq_getElem_cons hl] at h
 injection h with h1 h2
 refine ⟨hs, ?_, h2⟩
 rw [← get_at s hs, ← h1]
 rfl
theorem StR.next {s : ByteArray} {c : UInt8} {r : List UInt8} {n : Nat} (h1 : n + (c :: r).length = s.size) (h2 : s.data.toList.drop n = c :: r) : StR s (.ok r) ((n : Int) + 1) 0 :=
 ⟨rfl, n + 1, by simp, by simp only [List.length_cons] at h1; omega, (byte_at h2).2.2⟩
set_option maxRecDepth 100000 in
set_option maxHeartbeats 400000 in
theorem take_run (rb : Nat) (s : ByteArray) (σ : RSt) (w : World) (hs : s.size ≤ 1073741824) (h : Rd rb s σ w) :
 Calls Tryz.prog 202 #[.pointer (some ⟨rb, 0, none⟩)] w fun e w' => e = .returned (.int .u8 (takeV σ).toNat) ∧ Rd rb s (takeR σ) w' ∧ One rb w w' := by
 have H := hide h
 obtain ⟨h1, h2, h3, k, e, h4, h5, h6⟩ := h
 cases σ with
 | error d =>
   obtain ⟨rfl, hd⟩ := h6
   have hd' : (e != 0) = true := by simpa using hd
   clear hd
   go_enter Tryz.func202, Tryz.ntmps202
   go_wp2_with fail
   go_ret
   exact ⟨rfl, H.out, One.refl _ _⟩
 | ok l =>
   obtain ⟨rfl, n, rfl, hn, hd⟩ := h6
   cases l with
   | nil =>
     simp only [List.length_nil, Nat.add_zero] at hn
     have hq : ((n : Int) == (s.size : Int)) = true := by rw [hn]; simp
     have CF := hide (fun w' (o : One rb w w') (r : Rd rb s (.ok []) w') => rfail_run rb s (.ok []) 3 w' r (by decide))
     clear hn hd
     go_enter Tryz.func202, Tryz.ntmps202
     go_wp2_with fail
     go_quiet (fail)
     go_wp2_with fail
     refine (CF.out _ ((One.refl _ _).drewN _) (H.out.old (Old.drewN (Old.refl _) _))).mono ?_
     rintro e w1 ⟨rfl, r1, o1⟩
     have R1 := hide r1
     have O1 := hide (((One.refl rb w).drewN _).trans o1)
     clear r1 o1
     go_wp2_with fail
     go_ret
     exact ⟨rfl, R1.out, O1.out⟩
   | cons c r =>
     obtain ⟨b1, b2, b3⟩ := byte_at hd
     have hq : ((n : Int) == (s.size : Int)) = false := beq_eq_false_iff_ne.2 (by omega)
     have FIN := hide (fun (a b : Nat) => ((H.out.old (Old.drewN (Old.refl w) a)).setAt (τ := .ok r) (k := (n : Int) + 1) (e := 0) (by simpa using h5) (StR.next hn hd)).old (Old.drewN (Old.refl _) b))
     have B2 := hide (show (s[n].toNat : Int) = (c.toNat : Int) by rw [get_at s b1, b2])
     clear hn hd b3 b2
     go_enter Tryz.func202, Tryz.ntmps202
     go_wp2_with fail
     go_quiet (fail)
     go_wp2_with fail
     go_quiet (fail)
     go_wp2_with fail
     go_ret
     exact ⟨ret_int B2.out, FIN.out _ _, ((((One.refl _ _).drewN _).set _ _).drewN _)⟩
set_option maxRecDepth 100000 in
theorem takes_run (rb : Nat) (s : ByteArray) (σ : RSt) (x : UInt8) (w : World) (hs : s.size ≤ 1073741824) (h : Rd rb s σ w) (hx : takeV σ = x) :
 Calls Tryz.prog 202 #[.pointer (some ⟨rb, 0, none⟩)] w fun e w' => e = .returned (.int .u8 x.toNat) ∧ Rd rb s (takeR σ) w' ∧ One rb w w' := by
 subst hx
 exact take_run rb s σ w hs h
def wantR (x : UInt8) : RSt → RSt
 | .error e => .error e
 | .ok l => want1 x l
theorem wantR_eq (x : UInt8) (σ : RSt) : wantR x σ = if takeV σ = x then takeR σ else failR 41 (takeR σ) := by
 cases σ with
 | error e => simp only [wantR, takeR, failR]; split <;> rfl
 | ok l =>
   cases l with
   | nil => simp only [wantR, takeR, failR, want1]; split <;> rfl
   | cons c r => rfl
set_option maxRecDepth 100000 in
theorem want_run (rb : Nat) (s : ByteArray) (σ : RSt) (x : UInt8) (w : World) (hs : s.size ≤ 1073741824) (h : Rd rb s σ w) :
 Calls Tryz.prog 177 #[.pointer (some ⟨rb, 0, none⟩), .int .u8 x.toNat] w fun e w' => e = .returned (.tuple #[]) ∧ Rd rb s (wantR x σ) w' ∧ One rb w w' := by
 rw [wantR_eq x σ]
 obtain ⟨c, hc⟩ : ∃ c, Hid (takeV σ = c) := ⟨_, hide rfl⟩
 have CT := hide (takes_run rb s σ c w hs h hc.out)
 obtain ⟨τ, hτ⟩ : ∃ τ, Hid (takeR σ = τ) := ⟨_, hide rfl⟩
 rw [hτ.out] at CT ⊢
 rw [hc.out]
 clear h
 by_cases he : c = x
 · subst he
   rw [if_pos rfl]
   have hq : ((c.toNat : Int) != (c.toNat : Int)) = false := by simp
   go_enter Tryz.func177, Tryz.ntmps177
   go_wp2_with fail
   refine CT.out.mono ?_
   rintro e w1 ⟨rfl, r1, o1⟩
   have R1 := hide r1
   have O1 := hide o1
   clear r1 o1
   go_wp2_with fail
   go_end0
   exact ⟨rfl, R1.out, O1.out⟩
 · rw [if_neg he]
   have hq : ((c.toNat : Int) != (x.toNat : Int)) = true := by
    have : c.toNat ≠ x.toNat := fun e => he (UInt8.toNat_inj.1 e)
    simp; omega
   clear he
   go_enter Tryz.func177, Tryz.ntmps177
   go_wp2_with fail
   refine CT.out.mono ?_
   rintro e w1 ⟨rfl, r1, o1⟩
   have O1 := hide o1
   have CF := hide (rfail_run rb s τ 41 w1 r1 (by decide))
   clear r1 o1
   go_wp2_with fail
   refine CF.out.mono ?_
   rintro e w2 ⟨rfl, r2, o2⟩
   have R2 := hide r2
   have O2 := hide (O1.out.trans o2)
   clear r2 o2
   go_wp2_with fail
   go_end0
   exact ⟨rfl, R2.out, O2.out⟩
def digV : RSt → Nat
 | .ok l => (match hex1 l with | .ok (k, _) => k | .error _ => 0)
 | .error _ => 0
def digR : RSt → RSt
 | .error e => .error e
 | .ok l => (match hex1 l with | .ok (_, r) => .ok r | .error e => .error e)
theorem dig_eq (σ : RSt) : (digV σ = match hexV (takeV σ) with | some k => k | none => 0) ∧ digR σ = match hexV (takeV σ) with | some _ => takeR σ | none => failR 41 (takeR σ) := by
 have h0 : hexV 0 = none := by decide
 cases σ with
 | error e => simp [digV, digR, takeV, takeR, failR, h0]
 | ok l =>
   cases l with
   | nil => simp [digV, digR, takeV, takeR, failR, h0, hex1]
   | cons c r =>
     simp only [digV, digR, takeV, takeR, failR, hex1]
     cases hexV c <;> simp
def digIx (c : UInt8) : Int := Lib.indexByte [48, 49, 50, 51, 52, 53, 54, 55, 56, 57, 97, 98, 99, 100, 101, 102] (c ||| 32)
def digOk (c : UInt8) : Bool :=
 match hexV c with
 | some k => decide (digIx c = k ∧ 48 ≤ c.toNat ∧ (c.toNat ≤ 57 ∨ 65 ≤ c.toNat))
 | none => decide (digIx c < 0 ∨ c.toNat < 48 ∨ (57 < c.toNat ∧ c.toNat < 65))
theorem digOk_all (c : UInt8) : digOk c = true := by
 have key : ∀ n : _root_.Fin 256, digOk (UInt8.ofNat n.val) = true := by decide +kernel
 have h := key ⟨c.toNat, c.toNat_lt⟩
 simpa using h
theorem dig_some {c : UInt8} {k : Nat} (h : hexV c = some k) : digIx c = k ∧ 48 ≤ c.toNat ∧ (c.toNat ≤ 57 ∨ 65 ≤ c.toNat) := by
 have := digOk_all c
 unfold digOk at this
 rw [h] at this
 simpa using this
theorem dig_none {c : UInt8} (h : hexV c = none) : digIx c < 0 ∨ c.toNat < 48 ∨ (57 < c.toNat ∧ c.toNat < 65) := by
 have := digOk_all c
 unfold digOk at this
 rw [h] at this
 simpa using this
theorem or32 (c : UInt8) : bits BinOp.or IntKind.u8 (c.toNat : Int) 32 = ((c ||| 32).toNat : Int) := by
 have key : ∀ n : _root_.Fin 256, bits BinOp.or IntKind.u8 ((UInt8.ofNat n.val).toNat : Int) 32 = (((UInt8.ofNat n.val) ||| 32).toNat : Int) := by decide +kernel
 have h := key ⟨c.toNat, c.toNat_lt⟩
 simpa using h
def hexT : ByteArray := ⟨#[48, 49, 50, 51, 52, 53, 54, 55, 56, 57, 97, 98, 99, 100, 101, 102]⟩
theorem digIx_run (c : UInt8) (z : Int) (hz : z = (c ||| 32).toNat) (w : World) : Calls Tryz.prog 186 #[.string hexT, .int .u8 z] w fun e w' => e = .returned (.int .i64 (digIx c)) ∧ w = w' := by
 subst hz
 refine (Tryz.strings_IndexByte hexT ((c ||| 32).toNat : Int) w).mono ?_
 rintro e w' ⟨rfl, rfl⟩
 refine ⟨?_, rfl⟩
 simp only [digIx, hexT, Int.toNat_natCast]
 simp
set_option maxRecDepth 100000 in
set_option maxHeartbeats 400000 in
theorem digit_run (rb : Nat) (s : ByteArray) (σ : RSt) (w : World) (hs : s.size ≤ 1073741824) (h : Rd rb s σ w) :
 Calls Tryz.prog 221 #[.pointer (some ⟨rb, 0, none⟩)] w fun e w' => e = .returned (.int .i64 (digV σ)) ∧ Rd rb s (digR σ) w' ∧ One rb w w' := by
 obtain ⟨e1, e2⟩ := dig_eq σ
 rw [e1, e2]
 obtain ⟨c, hc⟩ : ∃ c, Hid (takeV σ = c) := ⟨_, hide rfl⟩
 have CT := hide (takes_run rb s σ c w hs h hc.out)
 obtain ⟨τ, hτ⟩ : ∃ τ, Hid (takeR σ = τ) := ⟨_, hide rfl⟩
 rw [hτ.out] at CT ⊢
 rw [hc.out]
 clear h e1 e2
 have CI := hide (fun z hz w' => digIx_run c z hz w')
 unfold hexT at CI
 obtain ⟨x, hxx⟩ : ∃ x, Hid (digIx c = x) := ⟨_, hide rfl⟩
 rw [hxx.out] at CI
 have OR := hide (fun w' => CI.out _ (or32 c) w')
 clear CI
 have FAIL : (hx : hexV c = none) → (∀ w1, Rd rb s τ w1 → One rb w w1 → Calls Tryz.prog 178 #[.pointer (some ⟨rb, 0, none⟩), .int .i64 41] w1 fun e w' => e = .returned (.tuple #[]) ∧ Rd rb s (failR 41 τ) w' ∧ One rb w w') := fun _ w1 r1 o1 =>
  (rfail_run rb s τ 41 w1 r1 (by decide)).mono fun e w' ⟨a, b, d⟩ => ⟨a, b, o1.trans d⟩
 cases hx : hexV c with
 | some k =>
   obtain ⟨d1, d2, d3⟩ := dig_some hx
   rw [hxx.out] at d1
   subst d1
   have d2' : ¬ (c.toNat : Int) < 48 := by omega
   have e1 : ¬ (k : Int) < 0 := by omega
   clear hx FAIL
   by_cases d4 : (57 : Int) < (c.toNat : Int)
   · have d5 : ¬ (c.toNat : Int) < 65 := by omega
     clear d3 d2
     go_enter Tryz.func221, Tryz.ntmps221
     go_wp2_with fail
     refine CT.out.mono ?_
     rintro e w1 ⟨rfl, r1, o1⟩
     have R1 := hide r1
     have O1 := hide o1
     clear r1 o1
     go_wp2_with fail
     refine (OR.out _).mono ?_
     rintro e w2 ⟨rfl, rfl⟩
     go_wp2_with fail
     go_ret
     exact ⟨rfl, R1.out, O1.out⟩
   · clear d3 d2
     go_enter Tryz.func221, Tryz.ntmps221
     go_wp2_with fail
     refine CT.out.mono ?_
     rintro e w1 ⟨rfl, r1, o1⟩
     have R1 := hide r1
     have O1 := hide o1
     clear r1 o1
     go_wp2_with fail
     refine (OR.out _).mono ?_
     rintro e w2 ⟨rfl, rfl⟩
     go_wp2_with fail
     go_ret
     exact ⟨rfl, R1.out, O1.out⟩
 | none =>
   have d1 := dig_none hx
   rw [hxx.out] at d1
   have CF := hide (FAIL hx)
   clear FAIL hx
   have three : x < 0 ∨ (¬ x < 0 ∧ (c.toNat : Int) < 48) ∨ (¬ x < 0 ∧ ¬ (c.toNat : Int) < 48 ∧ (57 : Int) < (c.toNat : Int) ∧ (c.toNat : Int) < 65) := by omega
   clear d1
   rcases three with d1 | ⟨d1, d2⟩ | ⟨d1, d2, d3, d4⟩
   all_goals
    go_enter Tryz.func221, Tryz.ntmps221
    go_wp2_with fail
    refine CT.out.mono ?_
    rintro e w1 ⟨rfl, r1, o1⟩
    have R1 := hide r1
    have O1 := hide o1
    clear r1 o1
    go_wp2_with fail
    refine (OR.out _).mono ?_
    rintro e w2 ⟨rfl, rfl⟩
    go_wp2_with fail
    refine (CF.out w1 R1.out O1.out).mono ?_
    rintro e w3 ⟨rfl, r3, o3⟩
    have R3 := hide r3
    have O3 := hide o3
    clear r3 o3
    go_wp2_with fail
    go_ret
    exact ⟨rfl, R3.out, O3.out⟩
theorem digV_lt (σ : RSt) : digV σ < 16 := by
 cases σ with
 | error e => simp [digV]
 | ok l =>
   simp only [digV]
   cases h : hex1 l with
   | error e => simp
   | ok x =>
     obtain ⟨k, r⟩ := x
     exact (hex1_less h).2
theorem digs_run (rb : Nat) (s : ByteArray) (σ τ : RSt) (k : Nat) (w : World) (hs : s.size ≤ 1073741824) (h : Rd rb s σ w) (hk : digV σ = k) (hτ : digR σ = τ) :
 Calls Tryz.prog 221 #[.pointer (some ⟨rb, 0, none⟩)] w fun e w' => e = .returned (.int .i64 k) ∧ Rd rb s τ w' ∧ One rb w w' := by
 subst hk hτ
 exact digit_run rb s σ w hs h
theorem orN {a b : Nat} (ha : a < 65536) (hb : b < 16) : bits BinOp.or IntKind.i64 ((a : Int) * 16) (b : Int) = ((16 * a + b : Nat) : Int) := by
 have h := Go.bits_join .i64 32 (by decide) (fun n h0 h1 => IntWalk.i64_in n (by omega)) 4 ((a : Int) * 16) (b : Int) (by omega) (by omega) (by omega) (by omega) (by omega) (by omega)
 rw [h]
 omega
def half2R (second : Bool) (σ : RSt) : RSt := if second = true ∧ digV σ ≠ 13 then failR 41 (digR σ) else digR σ
def half3R (second : Bool) (σ : RSt) : RSt := if second ≠ lowHalf (16 * digV σ + digV (half2R second σ)) then failR 41 (digR (half2R second σ)) else digR (half2R second σ)
def halfN (second : Bool) (σ : RSt) : Nat :=
 4096 * digV σ + 256 * digV (half2R second σ) + 16 * digV (half3R second σ) + digV (digR (half3R second σ))
def halfR (second : Bool) (σ : RSt) : RSt := digR (digR (half3R second σ))
theorem halfR_err (second : Bool) (c : Int) : halfR second (.error c) = .error c := by
 have h2 : half2R second (.error c) = .error c := by unfold half2R; split <;> rfl
 have h3 : half3R second (.error c) = .error c := by unfold half3R; rw [h2]; split <;> rfl
 unfold halfR
 rw [h3]
 rfl
theorem digR_err (c : Int) : digR (.error c) = .error c := rfl
theorem digR_ok {l r : List UInt8} {k : Nat} (h : hex1 l = .ok (k, r)) : digR (.ok l) = .ok r ∧ digV (.ok l) = k := by simp [digR, digV, h]
theorem digR_no {l : List UInt8} {c : Int} (h : hex1 l = .error c) : digR (.ok l) = .error c ∧ digV (.ok l) = 0 := by simp [digR, digV, h]
theorem half_eq (second : Bool) (l : List UInt8) : match half4 second l with
 | .error c => halfR second (.ok l) = .error c
 | .ok (n, r) => halfR second (.ok l) = .ok r ∧ halfN second (.ok l) = n := by
 unfold half4 halfR halfN half3R
 cases h1 : hex1 l with
 | error c =>
   have e := digR_no h1
   have h2 : half2R second (.ok l) = .error c := by unfold half2R; rw [e.1]; split <;> rfl
   simp only [h2, digR_err, failR_err]
   split <;> rfl
 | ok x =>
   obtain ⟨a, l1⟩ := x
   have e := digR_ok h1
   simp only [e.2]
   by_cases c1 : second = true ∧ a ≠ 13
   · have h2 : half2R second (.ok l) = .error 41 := by unfold half2R; rw [e.1, e.2, if_pos c1]; rfl
     rw [if_pos c1]
     simp only [h2, digR_err, failR_err]
     split <;> rfl
   · have h2 : half2R second (.ok l) = .ok l1 := by unfold half2R; rw [e.1, e.2, if_neg c1]
     rw [if_neg c1]
     simp only [h2]
     cases h3 : hex1 l1 with
     | error c =>
       have e3 := digR_no h3
       simp only [e3.1, e3.2, failR_err]
       split <;> rfl
     | ok x =>
       obtain ⟨b, l2⟩ := x
       have e3 := digR_ok h3
       simp only [e3.1, e3.2]
       by_cases c2 : second ≠ lowHalf (16 * a + b)
       · simp only [if_pos c2]
         rfl
       · simp only [if_neg c2]
         cases h4 : hex1 l2 with
         | error c =>
           have e4 := digR_no h4
           simp only [e4.1, digR_err]
         | ok x =>
           obtain ⟨c, l3⟩ := x
           have e4 := digR_ok h4
           simp only [e4.1, e4.2]
           cases h5 : hex1 l3 with
           | error c =>
             have e5 := digR_no h5
             simp only [e5.1]
           | ok x =>
             obtain ⟨d, l4⟩ := x
             have e5 := digR_ok h5
             simp only [e5.1, e5.2]
             exact ⟨trivial, trivial⟩
set_option maxRecDepth 100000 in
set_option maxHeartbeats 1000000 in
theorem half_run (rb : Nat) (s : ByteArray) (second : Bool) (σ : RSt) (w : World) (hs : s.size ≤ 1073741824) (h : Rd rb s σ w) :
 Calls Tryz.prog 203 #[.pointer (some ⟨rb, 0, none⟩), .bool second] w fun e w' => e = .returned (.int .i32 (halfN second σ)) ∧ Rd rb s (halfR second σ) w' ∧ One rb w w' := by
 unfold halfN halfR
 obtain ⟨a, ha⟩ : ∃ a, Hid (digV σ = a) := ⟨_, hide rfl⟩
 have a16 : a < 16 := by rw [← ha.out]; exact digV_lt _
 obtain ⟨σ1, h1⟩ : ∃ x, Hid (digR σ = x) := ⟨_, hide rfl⟩
 obtain ⟨σ2, h2⟩ : ∃ x, Hid (half2R second σ = x) := ⟨_, hide rfl⟩
 obtain ⟨b, hb⟩ : ∃ a, Hid (digV σ2 = a) := ⟨_, hide rfl⟩
 have b16 : b < 16 := by rw [← hb.out]; exact digV_lt _
 obtain ⟨σ3, h3⟩ : ∃ x, Hid (digR σ2 = x) := ⟨_, hide rfl⟩
 obtain ⟨σ4, h4⟩ : ∃ x, Hid (half3R second σ = x) := ⟨_, hide rfl⟩
 obtain ⟨c, hc⟩ : ∃ a, Hid (digV σ4 = a) := ⟨_, hide rfl⟩
 have c16 : c < 16 := by rw [← hc.out]; exact digV_lt _
 obtain ⟨σ5, h5⟩ : ∃ x, Hid (digR σ4 = x) := ⟨_, hide rfl⟩
 obtain ⟨d, hd⟩ : ∃ a, Hid (digV σ5 = a) := ⟨_, hide rfl⟩
 have d16 : d < 16 := by rw [← hd.out]; exact digV_lt _
 obtain ⟨σ6, h6⟩ : ∃ x, Hid (digR σ5 = x) := ⟨_, hide rfl⟩
 have H2 := hide h2.out
 have H4 := hide h4.out
 unfold half2R at H2
 unfold half3R at H4
 rw [h2.out, hb.out, ha.out, h3.out] at H4
 rw [ha.out, h1.out] at H2
 rw [h4.out, h2.out, hb.out, ha.out, h5.out, hc.out, hd.out, h6.out]
 have C1 := hide (digs_run rb s σ σ1 a w hs h ha.out h1.out)
 have C2 := hide (fun w' (r : Rd rb s σ2 w') => digs_run rb s σ2 σ3 b w' hs r hb.out h3.out)
 have C3 := hide (fun w' (r : Rd rb s σ4 w') => digs_run rb s σ4 σ5 c w' hs r hc.out h5.out)
 have C4 := hide (fun w' (r : Rd rb s σ5 w') => digs_run rb s σ5 σ6 d w' hs r hd.out h6.out)
 obtain ⟨n2, hn2⟩ : ∃ n, Hid (16 * a + b = n) := ⟨_, hide rfl⟩
 obtain ⟨n3, hn3⟩ : ∃ n, Hid (16 * n2 + c = n) := ⟨_, hide rfl⟩
 obtain ⟨n4, hn4⟩ : ∃ n, Hid (16 * n3 + d = n) := ⟨_, hide rfl⟩
 have b2 : n2 < 256 := by have := hn2.out; omega
 have b3 : n3 < 4096 := by have := hn3.out; omega
 have b4 : n4 < 65536 := by have := hn4.out; omega
 have q2 := orN (a := a) (b := b) (by omega) b16
 have q3 := orN (a := n2) (b := c) (by omega) c16
 have q4 := orN (a := n3) (b := d) (by omega) d16
 rw [hn2.out] at q2 H4
 rw [hn3.out] at q3
 rw [hn4.out] at q4
 have EN := hide (show 4096 * a + 256 * b + 16 * c + d = n4 by have := hn2.out; have := hn3.out; have := hn4.out; omega)
 rw [EN.out]
 clear h ha h1 h2 hb h3 h4 hc h5 hd h6
 go_enter Tryz.func203, Tryz.ntmps203
 go_wp2_with fail
 refine C1.out.mono ?_
 rintro e w1 ⟨rfl, r1, o1⟩
 have R1 := hide r1
 have O1 := hide o1
 clear r1 o1 C1
 obtain ⟨B1, hB1⟩ : ∃ B, Hid (decide (second = true ∧ a ≠ 13) = B) := ⟨_, hide rfl⟩
 go_upto_region 2 with fail
 go_cut [12] (fun bv wc => bv = .bool B1 ∧ wc = w1)
 case first =>
  cases second
  · go_wp2_with fail
    go_meet
    exact ⟨by rw [← hB1.out]; rfl, rfl⟩
  · by_cases h13 : a = 13
    · have e13 : ((a : Int) != 13) = false := by rw [h13]; rfl
      have e0 := hide (show B1 = false by rw [← hB1.out]; simp [h13])
      clear h13
      go_wp2_with fail
      go_meet
      exact ⟨by rw [e0.out], rfl⟩
    · have e13 : ((a : Int) != 13) = true := by simp; omega
      have e0 := hide (show B1 = true by rw [← hB1.out]; simp [h13])
      clear h13
      go_wp2_with fail
      go_meet
      exact ⟨by rw [e0.out], rfl⟩
 case rest =>
  obtain ⟨rfl, rfl⟩ := hcut
  go_upto_if 12 with fail
  go_cut [] (fun wd => Hid (Rd rb s σ2 wd) ∧ Hid (One rb w wd))
  case first =>
   cases B1
   · have hn : ¬ (second = true ∧ a ≠ 13) := of_decide_eq_false hB1.out
     have e2 := H2.out
     rw [if_neg hn] at e2
     have FIN := hide (show Rd rb s σ2 wc by rw [← e2]; exact R1.out)
     clear hn e2
     go_wp2_with fail
     go_meet
     exact ⟨FIN, O1⟩
   · have hn : second = true ∧ a ≠ 13 := of_decide_eq_true hB1.out
     have e2 := H2.out
     rw [if_pos hn] at e2
     have CF := hide (rfail_run rb s σ1 41 wc R1.out (by decide))
     rw [e2] at CF
     clear hn e2
     go_wp2_with fail
     refine CF.out.mono ?_
     rintro e w2 ⟨rfl, r2, o2⟩
     have R2 := hide r2
     have O2 := hide (O1.out.trans o2)
     clear r2 o2
     go_wp2_with fail
     go_meet
     exact ⟨R2, O2⟩
  case rest =>
   obtain ⟨R2, O2⟩ := hcut
   go_wp2_with fail
   refine (C2.out _ R2.out).mono ?_
   rintro e w3 ⟨rfl, r3, o3⟩
   have R3 := hide r3
   have O3 := hide (O2.out.trans o3)
   clear r3 o3 C2
   obtain ⟨B2, hB2⟩ : ∃ B, Hid (decide (second ≠ lowHalf n2) = B) := ⟨_, hide rfl⟩
   go_upto_region 5 with fail
   go_cut [27] (fun bv wc => bv = .bool B2 ∧ wc = w3)
   case first =>
    by_cases g1 : 220 ≤ n2
    · by_cases g2 : n2 ≤ 223
      · have g1' : (220 : Int) ≤ (n2 : Int) := by omega
        have g2' : (n2 : Int) ≤ 223 := by omega
        have e0 := hide (show B2 = !second by rw [← hB2.out]; unfold lowHalf; rw [decide_eq_true (show 220 ≤ n2 ∧ n2 ≤ 223 from ⟨g1, g2⟩)]; cases second <;> rfl)
        cases second
        · go_wp2_with fail
          go_meet
          exact ⟨by rw [e0.out] <;> rfl, rfl⟩
        · go_wp2_with fail
          go_meet
          exact ⟨by rw [e0.out] <;> rfl, rfl⟩
      · have g1' : (220 : Int) ≤ (n2 : Int) := by omega
        have g2' : ¬ (n2 : Int) ≤ 223 := by omega
        have e0 := hide (show B2 = second by rw [← hB2.out]; unfold lowHalf; rw [decide_eq_false (show ¬ (220 ≤ n2 ∧ n2 ≤ 223) from fun h => g2 h.2)]; cases second <;> rfl)
        cases second
        · go_wp2_with fail
          go_meet
          exact ⟨by rw [e0.out] <;> rfl, rfl⟩
        · go_wp2_with fail
          go_meet
          exact ⟨by rw [e0.out] <;> rfl, rfl⟩
    · have g1' : ¬ (220 : Int) ≤ (n2 : Int) := by omega
      have e0 := hide (show B2 = second by rw [← hB2.out]; unfold lowHalf; rw [decide_eq_false (show ¬ (220 ≤ n2 ∧ n2 ≤ 223) from fun h => g1 h.1)]; cases second <;> rfl)
      cases second
      · go_wp2_with fail
        go_meet
        exact ⟨by rw [e0.out] <;> rfl, rfl⟩
      · go_wp2_with fail
        go_meet
        exact ⟨by rw [e0.out] <;> rfl, rfl⟩
   case rest =>
    obtain ⟨rfl, rfl⟩ := hcut
    go_upto_if 27 with fail
    go_cut [] (fun wd => Hid (Rd rb s σ4 wd) ∧ Hid (One rb w wd))
    case first =>
     cases B2
     · have hn : ¬ (second ≠ lowHalf n2) := of_decide_eq_false hB2.out
       have e2 := H4.out
       rw [if_neg hn] at e2
       have FIN := hide (show Rd rb s σ4 _ by rw [← e2]; exact R3.out)
       clear hn e2
       go_wp2_with fail
       go_meet
       exact ⟨FIN, O3⟩
     · have hn : second ≠ lowHalf n2 := of_decide_eq_true hB2.out
       have e2 := H4.out
       rw [if_pos hn] at e2
       have CF := hide (rfail_run rb s σ3 41 _ R3.out (by decide))
       rw [e2] at CF
       clear hn e2
       go_wp2_with fail
       refine CF.out.mono ?_
       rintro e w4 ⟨rfl, r4, o4⟩
       have R4 := hide r4
       have O4 := hide (O3.out.trans o4)
       clear r4 o4
       go_wp2_with fail
       go_meet
       exact ⟨R4, O4⟩
    case rest =>
     obtain ⟨R4, O4⟩ := hcut
     go_wp2_with fail
     refine (C3.out _ R4.out).mono ?_
     rintro e w5 ⟨rfl, r5, o5⟩
     have R5 := hide r5
     have O5 := hide (O4.out.trans o5)
     clear r5 o5 C3
     go_wp2_with fail
     refine (C4.out _ R5.out).mono ?_
     rintro e w6 ⟨rfl, r6, o6⟩
     have R6 := hide r6
     have O6 := hide (O5.out.trans o6)
     clear r6 o6 C4
     go_wp2_with fail
     go_ret
     exact ⟨rfl, R6.out, O6.out⟩
end Go.Proofs.YthlfljmfggmfdaaGreatDoor
