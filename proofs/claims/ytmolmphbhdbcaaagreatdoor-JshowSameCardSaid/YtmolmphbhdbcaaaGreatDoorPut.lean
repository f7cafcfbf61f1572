/- The document's digits of a number: they are those of the library's numeral. -/
import Derived.Test.YtmolmphbhdbcaaaGreatDoorBase
import Derived.Test.YtmolmphbhdbcaaaGreatDoorProg
import Derived.Test.YtmolmphbhdbcaaaGreatDoorQuoteL
import Derived.Lib.ItoaNum
import Derived.Test.YtmolmphbhdbcaaaGreatDoorPartsIt
import Derived.Test.YtmolmphbhdbcaaaGreatDoorQuoW
import Derived.Deep.RegionHeld3
import Derived.Test.YtmolmphbhdbcaaaGreatDoorTail
import Derived.Lib.SmallJoins
import Derived.Lib.AppendIntMem
/-! ### The document's digits of a number: they are those of the library's numeral. -/
namespace Go.Proofs.YtmolmphbhdbcaaaGreatDoor
open Go.RowKit

/-- the digits of a number that is not 0; none of 0 -/
def decD (u : Nat) : List UInt8 := if u = 0 then [] else Lib.decDigits u
theorem decD_step {u : Nat} (h : u ≠ 0) : decD u = decD (u / 10) ++ [UInt8.ofNat (48 + u % 10)] := by
  unfold decD
  rw [if_neg h]
  by_cases h10 : u < 10
  · rw [if_pos (by omega), Lib.decDigits_one h10, Nat.mod_eq_of_lt h10]
    rfl
  · rw [if_neg (by omega)]
    conv => lhs; rw [Lib.decDigits]
    rw [dif_neg h10]
theorem decD_len (u : Nat) (h : u ≤ 9223372036854775808) : (decD u).length ≤ 20 := by
  unfold decD
  split
  · simp
  · have h1 := itoa_len (n := -(u : Int)) (by omega) (by omega)
    unfold Lib.itoa at h1
    rw [if_pos (by omega)] at h1
    simp only [List.length_cons, Int.natAbs_neg, Int.natAbs_natCast] at h1
    omega
theorem dig_at {k : Nat} (h : k < 10) : (⟨#[48, 49, 50, 51, 52, 53, 54, 55, 56, 57]⟩ : ByteArray).extract k (k + 1) = ⟨#[UInt8.ofNat (48 + k)]⟩ := by
  have key : ∀ k : _root_.Fin 10, (⟨#[48, 49, 50, 51, 52, 53, 54, 55, 56, 57]⟩ : ByteArray).extract k.val (k.val + 1) = ⟨#[UInt8.ofNat (48 + k.val)]⟩ := by decide +kernel
  exact key ⟨k, h⟩
theorem dig_app (k : Nat) (l : List UInt8) : (⟨#[48 + UInt8.ofNat k]⟩ : ByteArray) ++ ⟨l.toArray⟩ = ⟨(UInt8.ofNat (48 + k) :: l).toArray⟩ := by
  apply ByteArray.ext
  simp
theorem bytes_app (a b : List UInt8) : (⟨a.toArray⟩ : ByteArray) ++ ⟨b.toArray⟩ = ⟨(a ++ b).toArray⟩ := by
  apply ByteArray.ext
  simp

end Go.Proofs.YtmolmphbhdbcaaaGreatDoor

/-! ### The writer: quote, put and all: what they add to the text. -/
/-! ### The writer: quote, put and all: what they add to the text. -/
namespace Go.Proofs.YtmolmphbhdbcaaaGreatDoor
open Go.RowKit Go.Shelf

theorem WKept.of_old {B b : Nat} {w w' : World} (h : Old w w') (hB : B ≤ w.heap.size) : WKept B b w w' :=
  ⟨h.mono hB, fun _ _ hk _ _ => h.heap hk⟩
set_option maxRecDepth 100000 in
set_option maxHeartbeats 1000000 in
theorem wquote_run (s : ByteArray) (B b : Nat) (acc : List UInt8) (w : World) (hs : s.size ≤ 17592186044416) (hv : vU s = true) (hT : Tabs w) (h : WBs 52 B b acc w) (hlen : acc.length + 6 * s.size + 2 ≤ 140737488355328) (hBw : B ≤ w.heap.size) :
    Calls Tryz.prog 41 #[.pointer (some ⟨b, 0, none⟩), .string s] w fun e w' => e = .returned (.tuple #[]) ∧ WBs 52 B b (acc ++ quoteL s) w' ∧ WKept B b w w' := by
  have CQ := quote_ok s w hs hv hT
  have hql := (quoteL_len s).2
  have H := hide h
  clear hT h hv
  go_enter Tryz.func41, Tryz.ntmps41
  go_wp2_with fail
  refine CQ.mono ?_
  rintro e w1 ⟨rfl, o1⟩
  clear CQ
  have H1 := WBs.old H.out o1
  have K1 := hide (WKept.of_old (b := b) o1 hBw)
  have hB1 : B ≤ w1.heap.size := Nat.le_trans hBw o1.size
  obtain ⟨q, hq⟩ : ∃ q, Hid (quoteL s = q) := ⟨_, hide rfl⟩
  rw [hq.out] at hql ⊢
  go_wp2_with fail
  refine (wb_WriteString 52 (.inr rfl) B b acc ⟨q.toArray⟩ _ H1 (by simp [ByteArray.size]; omega) hB1).mono ?_
  rintro e w2 ⟨rfl, h2, k2⟩
  have H2 := hide h2
  have K2 := hide (K1.out.trans k2)
  clear h2 k2 H1
  go_wp2_with fail
  go_end0
  exact ⟨rfl, by rw [hq.out]; simpa using H2.out, K2.out⟩
end Go.Proofs.YtmolmphbhdbcaaaGreatDoor

/-! ### The writer's put, of a value whose parts' put is known; and all. -/
namespace Go.Proofs.YtmolmphbhdbcaaaGreatDoor
open Go.RowKit Go.Shelf

/-- the library's table of powers of ten -/
abbrev PowTab (w : World) : Prop := Lib.TabIs Tryz.prog w "internal/strconv.uint64pow10" .u64 Lib.pow10Tab
theorem itoa_run (n : Int) (h0 : -9223372036854775808 ≤ n) (h1 : n ≤ 9223372036854775807) (w : World) (ht : PowTab w) :
    Calls Tryz.prog 40 #[.int .i64 n, .int .i64 10] w fun e w' => e = .returned (.string ⟨(Lib.itoa n).toArray⟩) ∧ Old w w' :=
  (Tryz.strconv_FormatInt_10 n h0 h1 w ht).mono fun e w' ⟨he, k, os, hw⟩ => ⟨he, by rw [hw]; exact Lib.below_grow _ w (Nat.le_refl _) k os⟩
/-- nodes, in memory older than the writer, that are not too many or too long -/
structure Site (B : Nat) (t : List Nd) (v : Value) (w0 : World) : Prop where
  nodes : NodesIs w0 v t
  size : w0.heap.size ≤ B
  len : t.length ≤ 4000
  tabs : ∀ w, Old w0 w → Tabs w
  pow : ∀ w, Old w0 w → PowTab w
  nums : NumsOk t
  small : ∀ x ∈ t, x.key.size ≤ 2097152 ∧ x.s.size ≤ 2097152
  room : t.length * ndRoom t + 2 ≤ 1099511627776
def PutPost (B b : Nat) (acc out : List UInt8) (w : World) (e : Ending) (w' : World) : Prop :=
  e = .returned (.tuple #[]) ∧ ∃ bs, WBs 52 B b bs w' ∧ Puts acc out bs ∧ WKept B b w w'
def PutC (j : J) : Prop := ∀ (t : List Nd) (i : Nat) (r : List Nd) (v : Value) (w0 : World) (B b : Nat) (acc : List UInt8) (w : World), Site B t v w0 → t.drop i = j.flat ++ r → J.Ok vU j → acc.length + j.deep * 1099511627776 ≤ 70368744177664 →
  Old w0 w → WBs 52 B b acc w → B ≤ w.heap.size → Calls Tryz.prog 22 #[.pointer (some ⟨b, 0, none⟩), v, .int .i64 i] w (PutPost B b acc j.show w)
def AllC (h : Hd) (l : List J) : Prop := ∀ (t : List Nd) (i : Nat) (r : List Nd) (v : Value) (w0 : World) (B b : Nat) (acc : List UInt8) (w : World) (f e : UInt8), Site B t v w0 → t.drop i = (J.mk h l).flat ++ r → J.Ok vU (.mk h l) → acc.length + (J.mk h l).deep * 1099511627776 ≤ 70368744177664 →
  Old w0 w → WBs 52 B b acc w → B ≤ w.heap.size → Calls Tryz.prog 42 #[.pointer (some ⟨b, 0, none⟩), v, .int .i64 i, .string ⟨#[f]⟩, .string ⟨#[e]⟩] w (PutPost B b acc (f :: (J.shows (h.kind == 7) true l ++ [e])) w)
theorem PutPost.as {B b : Nat} {acc out out' : List UInt8} {w : World} {e : Ending} {w' : World} (h : PutPost B b acc out w e w') (ho : out = out') : PutPost B b acc out' w e w' := ho ▸ h

set_option maxRecDepth 100000 in
set_option maxHeartbeats 1000000 in
theorem put_step (h : Hd) (l : List J) (HA : AllC h l) : PutC (.mk h l) := by
  intro t i r v w0 B b acc w S hd hok hbd ho hb hBw
  have CA := hide (fun w' hw hb' hBw' f e => HA t i r v w0 B b acc w' f e S hd hok hbd hw hb' hBw')
  have hdeep : 1 ≤ (J.mk h l).deep := deep_pos _
  have hal : acc.length ≤ 70368744177664 := by omega
  have hdp : acc.length + 1099511627776 ≤ 70368744177664 := by
    have := Nat.mul_le_mul_right 1099511627776 hdeep
    omega
  have CL := hide (wb_Len 52 B b acc w hb)
  obtain ⟨A, cap, rfl, hcl, hcm, _⟩ := S.nodes.nodes
  have hroot : t[i]? = some ⟨h.kind, h.key, h.n, h.s, ((J.flats l).length : Int) + 1⟩ := by
    have e := congrArg List.head? hd
    rw [List.head?_drop, flat_mk] at e
    simpa using e
  obtain ⟨hil, hnode⟩ := List.getElem?_eq_some_iff.1 hroot
  have hmem : (⟨h.kind, h.key, h.n, h.s, ((J.flats l).length : Int) + 1⟩ : Nd) ∈ t := by rw [← hnode]; exact List.getElem_mem hil
  have hnum : -9223372036854775808 ≤ h.n ∧ h.n ≤ 9223372036854775807 := S.nums _ hmem
  have hsm : h.key.size ≤ 2097152 ∧ h.s.size ≤ 2097152 := S.small _ hmem
  obtain ⟨g, off, rfl, z0, z1, z2, z3, z4⟩ := nodes_cells S.nodes hroot
  have y0 := ho.cell z0
  have y1 := ho.cell z1
  have y2 := ho.cell z2
  have y3 := ho.cell z3
  have y4 := ho.cell z4
  obtain ⟨m, hm⟩ : ∃ m, Hid (t.length = m) := ⟨_, hide rfl⟩
  rw [hm.out] at hil hcl CA
  rw [hm.out]
  unfold maxLen at hcm
  have HB := hide hb
  have HO := hide ho
  have HT := hide (S.tabs)
  have HP := hide (S.pow)
  obtain ⟨F, hF⟩ : ∃ F, Hid ((J.flats l).length = F) := ⟨_, hide rfl⟩
  rw [hF.out] at y4
  obtain ⟨sh, hsh⟩ : ∃ sh, (J.mk h l).show = sh := ⟨_, rfl⟩
  rw [hsh]
  have hcases : (h.kind = 1 ∧ [110, 117, 108, 108] = sh) ∨ (h.kind = 2 ∧ [102, 97, 108, 115, 101] = sh) ∨ (h.kind = 3 ∧ [116, 114, 117, 101] = sh) ∨ (h.kind = 4 ∧ Lib.itoa h.n = sh) ∨ (h.kind = 5 ∧ quoteL h.s = sh ∧ vU h.s = true) ∨
      (h.kind = 6 ∧ 91 :: (J.shows (h.kind == 7) true l ++ [93]) = sh) ∨ (h.kind = 7 ∧ 123 :: (J.shows (h.kind == 7) true l ++ [125]) = sh) := by
    have hok' := hok
    simp only [J.Ok] at hok'
    simp only [J.show] at hsh
    rcases hok' with ⟨(⟨(hk | hk | hk), _⟩ | ⟨hk, _⟩ | ⟨hk, _, hv⟩), _⟩ | ⟨hk, _⟩ | ⟨hk, _⟩ <;> rw [hk] at hsh ⊢ <;> simp at hsh ⊢
    · exact hsh
    · exact hsh
    · exact hsh
    · exact hsh
    · exact ⟨hsh, hv⟩
    · exact hsh
    · exact hsh
  clear hsh
  obtain ⟨ac, hac⟩ : ∃ ac, Hid (acc.length = ac) := ⟨_, hide rfl⟩
  rw [hac.out] at CL hal hdp
  clear hb ho hok hbd hroot hmem hnode z0 z1 z2 z3 z4 HA
  go_enter Tryz.func22, Tryz.ntmps22
  go_wp2_with fail
  refine CL.out.mono ?_
  rintro e w1 ⟨rfl, rfl⟩
  by_cases hov : ac > 1048576
  · have hov' : (ac : Int) > 1048576 := by omega
    go_wp2_with fail
    go_end0
    exact ⟨rfl, acc, HB.out, Puts.full _ (by rw [hac.out]; exact hov), WKept.refl _ _ _⟩
  · have hov' : ¬ (ac : Int) > 1048576 := by omega
    have WX := hide (fun o => WBs.old HB.out (Old.alloc (Old.refl w1) o))
    have KX := hide (fun o => WKept.of_old (B := B) (b := b) (Old.alloc (Old.refl w1) o) hBw)
    have SX := hide (fun o => show B ≤ (w1.alloc o).heap.size by simp; omega)
    have hal2 : acc.length ≤ 70368744177664 := by rw [hac.out]; exact hal
    rcases hcases with ⟨hk, hs⟩ | ⟨hk, hs⟩ | ⟨hk, hs⟩ | ⟨hk, hs⟩ | ⟨hk, hs, hvs⟩ | ⟨hk, hs⟩ | ⟨hk, hs⟩ <;> rw [hk] at y0 <;> replace hs := hide hs
    · have z : (⟨#[110, 117, 108, 108]⟩ : ByteArray).size = 4 := rfl
      have zl : acc.length + (⟨#[110, 117, 108, 108]⟩ : ByteArray).size ≤ 140737488355328 := by rw [z]; omega
      clear z
      go_wp2_with fail
      refine (wb_WriteString 52 (.inr rfl) B b acc ⟨#[110, 117, 108, 108]⟩ _ (WX.out _) zl (SX.out _)).mono ?_
      rintro e w2 ⟨rfl, h2, k2⟩
      have H2 := hide h2
      have K2 := hide ((KX.out _).trans k2)
      clear h2 k2
      go_wp2_with fail
      go_end0
      exact ⟨rfl, _, H2.out, by rw [← hs.out]; exact Puts.all _ _, K2.out⟩
    · have z : (⟨#[102, 97, 108, 115, 101]⟩ : ByteArray).size = 5 := rfl
      have zl : acc.length + (⟨#[102, 97, 108, 115, 101]⟩ : ByteArray).size ≤ 140737488355328 := by rw [z]; omega
      clear z
      go_wp2_with fail
      refine (wb_WriteString 52 (.inr rfl) B b acc ⟨#[102, 97, 108, 115, 101]⟩ _ (WX.out _) zl (SX.out _)).mono ?_
      rintro e w2 ⟨rfl, h2, k2⟩
      have H2 := hide h2
      have K2 := hide ((KX.out _).trans k2)
      clear h2 k2
      go_wp2_with fail
      go_end0
      exact ⟨rfl, _, H2.out, by rw [← hs.out]; exact Puts.all _ _, K2.out⟩
    · have z : (⟨#[116, 114, 117, 101]⟩ : ByteArray).size = 4 := rfl
      have zl : acc.length + (⟨#[116, 114, 117, 101]⟩ : ByteArray).size ≤ 140737488355328 := by rw [z]; omega
      clear z
      go_wp2_with fail
      refine (wb_WriteString 52 (.inr rfl) B b acc ⟨#[116, 114, 117, 101]⟩ _ (WX.out _) zl (SX.out _)).mono ?_
      rintro e w2 ⟨rfl, h2, k2⟩
      have H2 := hide h2
      have K2 := hide ((KX.out _).trans k2)
      clear h2 k2
      go_wp2_with fail
      go_end0
      exact ⟨rfl, _, H2.out, by rw [← hs.out]; exact Puts.all _ _, K2.out⟩
    · have CI := hide (fun w' (ho : Old w1 w') => itoa_run h.n hnum.1 hnum.2 w' (HP.out w' (Old.trans HO.out ho)))
      have hil20 := itoa_len hnum.1 hnum.2
      have z : (⟨(Lib.itoa h.n).toArray⟩ : ByteArray).size = (Lib.itoa h.n).length := rfl
      have zl : acc.length + (⟨(Lib.itoa h.n).toArray⟩ : ByteArray).size ≤ 140737488355328 := by rw [z]; omega
      clear z
      go_wp2_with fail
      refine region_later_tail 6 (by kernel_rfl) (by kernel_rfl) ?_
      simp only [List.take_succ_cons, List.take_zero, List.drop_succ_cons, List.drop_zero]
      have bx : ∀ p : Later (w1.alloc (.cells #[.int .i64 4, .string h.key, .int .i64 h.n, .string h.s, .int .i64 ((F : Int) + 1)] 57)), p.world.cell? ⟨w1.heap.size, 2, none⟩ = some (.int .i64 h.n) := fun p => p.old.cell (by rw [cell_of_heap (heap_alloc_new w1 _)]; rfl)
      repeat (go_big_quiet_step ((go_at_call 40; exact Later.call (CI.out _ (Old.trans (Old.alloc (Old.refl _) _) (Later.old _))))))
      refine wpQuiet_nil ?_
      rintro wz ⟨⟨_, hwz⟩, rfl⟩
      have hwz2 := Old.trans (Old.alloc (Old.refl w1) _) hwz
      have HZ := hide (WBs.old HB.out hwz2)
      have KZ := hide (WKept.of_old (B := B) (b := b) hwz2 hBw)
      have hsz : B ≤ wz.heap.size := Nat.le_trans hBw hwz2.size
      clear bx CI
      go_wp2_with fail
      refine (wb_WriteString 52 (.inr rfl) B b acc ⟨(Lib.itoa h.n).toArray⟩ _ HZ.out zl hsz).mono ?_
      rintro e w2 ⟨rfl, h2, k2⟩
      have H2 := hide h2
      have K2 := hide (KZ.out.trans k2)
      clear h2 k2
      go_wp2_with fail
      go_end0
      exact ⟨rfl, _, H2.out, by rw [← hs.out]; exact Puts.all _ _, K2.out⟩
    · have CQ := hide (fun o => wquote_run h.s B b acc (w1.alloc o) (by omega) hvs (HT.out _ (Old.trans HO.out (Old.alloc (Old.refl _) o))) (WX.out o) (by omega) (SX.out o))
      go_wp2_with fail
      refine (CQ.out _).mono ?_
      rintro e w2 ⟨rfl, h2, k2⟩
      have H2 := hide h2
      have K2 := hide ((KX.out _).trans k2)
      clear h2 k2
      go_wp2_with fail
      go_end0
      exact ⟨rfl, _, H2.out, by rw [← hs.out]; exact Puts.all _ _, K2.out⟩
    · go_wp2_with fail
      refine (CA.out _ (Old.trans HO.out (Old.alloc (Old.refl _) _)) (WX.out _) (SX.out _) 91 93).mono ?_
      rintro e w2 hp
      have HQ := hide hp
      obtain ⟨rfl, bs, h2, p2, k2⟩ := hp
      have K2 := hide ((KX.out _).trans k2)
      clear h2 p2 k2
      go_wp2_with fail
      go_end0
      obtain ⟨_, bs, h2, p2, _⟩ := HQ.out
      exact ⟨rfl, bs, h2, by rw [← hs.out]; exact p2, K2.out⟩
    · go_wp2_with fail
      refine (CA.out _ (Old.trans HO.out (Old.alloc (Old.refl _) _)) (WX.out _) (SX.out _) 123 125).mono ?_
      rintro e w2 hp
      have HQ := hide hp
      obtain ⟨rfl, bs, h2, p2, k2⟩ := hp
      have K2 := hide ((KX.out _).trans k2)
      clear h2 p2 k2
      go_wp2_with fail
      go_end0
      obtain ⟨_, bs, h2, p2, _⟩ := HQ.out
      exact ⟨rfl, bs, h2, by rw [← hs.out]; exact p2, K2.out⟩
end Go.Proofs.YtmolmphbhdbcaaaGreatDoor
