/- The document's Show and Canon. -/
import Derived.Test.YtmolmphbhdbcaaaDoorRQuo
import Derived.Test.YtmolmphbhdbcaaaDoorDigits
import Derived.Test.YtmolmphbhdbcaaaDoorShowW
namespace Go.Proofs.YtmolmphbhdbcaaaDoor
open Go.RowKit

/-- texts of a MiB at most -/
def Short (l : List Nd) : Prop := ∀ x ∈ l, x.key.size ≤ 1048576 ∧ x.s.size ≤ 1048576
theorem Short.left {a b : List Nd} (h : Short (a ++ b)) : Short a := fun x hx => h x (by simp [hx])
theorem Short.right {a b : List Nd} (h : Short (a ++ b)) : Short b := fun x hx => h x (by simp [hx])
theorem short_room {l : List Nd} (h : Short l) (hl : l.length ≤ 4000) : ndRoom l ≤ 50331776000 := by
  have h1 := room_le (C := 1048576) h
  have h2 : l.length * (12 * 1048576 + 32) ≤ 4000 * (12 * 1048576 + 32) := Nat.mul_le_mul_right _ hl
  omega

theorem shown_facts (o : Bool) {t : List Nd} {x : Nd} {l l1 l2 : List J} (hr : t = x :: J.flats l) (hn : NumsOk t) (hs : Short t) (hl : t.length ≤ 4000) (e : l = l1 ++ l2) :
    (J.shows o true l1).length ≤ 50331776000 ∧ t.length = 1 + (J.flats l1).length + (J.flats l2).length ∧ NumsOk (J.flats l2) ∧ Short (J.flats l2) := by
  subst e
  rw [flats_append] at hr
  have e2 : t = [x] ++ J.flats l1 ++ J.flats l2 := by rw [hr]; simp
  have n1 : NumsOk (J.flats l1) := fun y hy => hn y (by rw [e2]; simp [hy])
  have n2 : NumsOk (J.flats l2) := fun y hy => hn y (by rw [e2]; simp [hy])
  have s2 : Short (J.flats l2) := fun y hy => hs y (by rw [e2]; simp [hy])
  refine ⟨?_, ?_, n2, s2⟩
  · have h1 := show_room.2 l1 n1 o true
    have h2 := ndRoom_le e2
    have h3 := short_room hs hl
    omega
  · rw [e2]
    simp
    omega

set_option maxRecDepth 100000 in
set_option maxHeartbeats 4000000 in
theorem rshown_run : ∀ (N : Nat) (j : J) (v : Value) (w : World), j.flat.length = N → NodesIs w v j.flat → N ≤ 4000 → J.Ok vU j → NumsOk j.flat → Short j.flat →
    Calls Tryd.prog 30 #[v] w fun e w' => e = .returned (.string ⟨(j.show).toArray⟩) ∧ Old w w' := by
  intro N
  induction N using Nat.strongRecOn with
  | ind N ih =>
    rintro ⟨h, l⟩ v w hN hn hl hok hnum hsh
    have HN := hide hN
    obtain ⟨A, cap, rfl, hla, hma, hc⟩ := hn.nodes
    unfold maxLen at hma
    have hroot := flat_mk h l
    obtain ⟨t, ht⟩ : ∃ t, Hid ((J.mk h l).flat = t) := ⟨_, hide rfl⟩
    simp only [ht.out] at hn hc hla hnum hsh hN hroot ⊢
    rw [hN] at hn hla ⊢
    have hpos : 0 < t.length := by rw [hroot]; simp
    obtain ⟨b1, o1, rfl, hc1⟩ := hc.resolve_left (by omega)
    obtain ⟨d0, d1, d2, d3, d4⟩ := hc1 0 hpos
    have hx0 : t[0] = ⟨h.kind, h.key, h.n, h.s, ((J.flats l).length : Int) + 1⟩ := by simp [hroot]
    rw [hx0] at d0 d1 d2 d3 d4
    simp only [Nat.zero_mul, Nat.add_zero] at d0 d1 d2 d3 d4
    have HC := hide hc1
    have HROOT := hide hroot
    have HT := hide hN
    have hNpos : 0 < N := by omega
    have HN0 := hide hn
    have hnn := hnum ⟨h.kind, h.key, h.n, h.s, ((J.flats l).length : Int) + 1⟩ (by rw [hroot]; simp)
    have hss := (hsh ⟨h.kind, h.key, h.n, h.s, ((J.flats l).length : Int) + 1⟩ (by rw [hroot]; simp)).2
    simp only at hnn hss
    have HNUM := hide hnum
    have HSH := hide hsh
    have HOK := hide hok
    have IH := hide ih
    clear hc hc1 hx0 hroot hN hpos hn hnum hsh hok ih
    have hkind : h.kind = 1 ∨ h.kind = 2 ∨ h.kind = 3 ∨ h.kind = 4 ∨ h.kind = 5 ∨ h.kind = 6 ∨ h.kind = 7 := by
      have := HOK.out
      simp only [J.Ok, leafOk] at this
      omega
    rcases hkind with hk | hk | hk | hk | hk | hk | hk
    · have JS := hide (show (J.mk h l).show = [110, 117, 108, 108] by simp [J.show, hk])
      rw [hk] at d0
      clear hk
      go_enter Tryd.func30, Tryd.ntmps30
      go_wp2_with fail
      go_ret
      exact ⟨by rw [JS.out]; rfl, Old.alloc (Old.refl _) _⟩
    · have JS := hide (show (J.mk h l).show = [102, 97, 108, 115, 101] by simp [J.show, hk])
      rw [hk] at d0
      clear hk
      go_enter Tryd.func30, Tryd.ntmps30
      go_wp2_with fail
      go_ret
      exact ⟨by rw [JS.out]; rfl, Old.alloc (Old.refl _) _⟩
    · have JS := hide (show (J.mk h l).show = [116, 114, 117, 101] by simp [J.show, hk])
      rw [hk] at d0
      clear hk
      go_enter Tryd.func30, Tryd.ntmps30
      go_wp2_with fail
      go_ret
      exact ⟨by rw [JS.out]; rfl, Old.alloc (Old.refl _) _⟩
    · have JS := hide (show (J.mk h l).show = Lib.itoa h.n by simp [J.show, hk])
      rw [hk] at d0
      clear hk
      go_enter Tryd.func30, Tryd.ntmps30
      go_wp2_with fail
      refine (digits_run h.n hnn.1 hnn.2 _).mono ?_
      rintro e w2 ⟨rfl, o2⟩
      have O2 := hide o2
      clear o2
      go_wp2_with fail
      go_ret
      exact ⟨by rw [JS.out]; rfl, Old.trans (Old.alloc (Old.refl _) _) O2.out⟩
    · have JS := hide (show (J.mk h l).show = quoteL h.s by simp [J.show, hk])
      have hv : vU h.s = true := by
        have := HOK.out
        simp only [J.Ok, leafOk] at this
        rcases this with ⟨h1 | h1 | h1, _⟩ | h1 | h1
        · omega
        · omega
        · exact h1.2.2
        · omega
        · omega
      rw [hk] at d0
      clear hk
      go_enter Tryd.func30, Tryd.ntmps30
      go_wp2_with fail
      refine (rquote_ok h.s _ (by omega) hv).mono ?_
      rintro e w2 ⟨rfl, o2⟩
      have O2 := hide o2
      clear o2
      go_wp2_with fail
      go_ret
      exact ⟨by rw [JS.out]; rfl, Old.trans (Old.alloc (Old.refl _) _) O2.out⟩
    · have JS := hide (show (J.mk h l).show = 91 :: (J.shows false true l ++ [93]) by simp [J.show, hk])
      rw [hk] at d0
      have HK := hide hk
      clear hk
      go_enter Tryd.func30, Tryd.ntmps30
      go_wp2_with fail
      obtain ⟨W, hW⟩ : ∃ W, Hid (w.alloc (.cells #[.int .i64 6, .string h.key, .int .i64 h.n, .string h.s, .int .i64 (((J.flats l).length : Int) + 1)] 50) = W) := ⟨_, hide rfl⟩
      rw [hW.out]
      have oW : Old w W := by rw [← hW.out]; exact Old.alloc (Old.refl _) _
      have OW := hide oW
      have KW := hide (show W.cell? ⟨w.heap.size, 0, none⟩ = some (.int .i64 6) by rw [← hW.out, cell_of_heap (heap_alloc_new w _)]; rfl)
      clear oW d0 d1 d2 d3 d4
      go_loopw [6, 7] (fun sv iv wr => ∃ (l1 l2 : List J) (p : Nat) (S : ByteArray), sv = .string S ∧ iv = .int .i64 p ∧ p ≤ N ∧ Hid (S = ⟨(J.shows false true l1).toArray⟩) ∧ Hid (l = l1 ++ l2) ∧ Hid (p = 1 + (J.flats l1).length) ∧ Hid (Old W wr)) (fun _ iv _ => N - (intOf iv).toNat)
      case atStart => exact ⟨[], l, 1, ⟨#[]⟩, rfl, rfl, by omega, hide (by rw [shows_nil]), hide rfl, hide (by simp [J.flats]), hide (Old.refl _)⟩
      case round =>
        obtain ⟨l1, l2, p, S, rfl, rfl, hp, HS, HL, HP, HO⟩ := hrel
        obtain ⟨hll, HNN, HRO⟩ := shown_facts false HROOT.out HNUM.out HSH.out (by rw [HT.out]; exact hl) HL.out
        rw [HT.out] at HNN
        have hsz : S.size ≤ 50331776000 := by rw [HS.out]; simpa [ByteArray.size] using hll
        have hkw := HO.out.cell KW.out
        cases l2 with
        | nil =>
          have hpN : p = N := by rw [HP.out, HNN]; simp [J.flats]
          have EQ := hide (show l1 = l by rw [HL.out]; simp)
          have hlt : ¬ (p : Int) < (N : Int) := by omega
          clear hll hpN HNN HRO
          go_wp2_with fail
          go_ret
          refine ⟨?_, Old.trans OW.out HO.out⟩
          rw [JS.out, HS.out, EQ.out]
          simp [bytes_app]
        | cons j l3 =>
          rw [flats_cons, List.length_append] at HNN
          have hq := flat_pos j
          obtain ⟨q, hqq⟩ : ∃ q, Hid (j.flat.length = q) := ⟨_, hide rfl⟩
          rw [hqq.out] at HNN hq
          have hlt : (p : Int) < (N : Int) := by have := HP.out; omega
          have hpq : p + q ≤ N := by have := HP.out; omega
          have HDP : t.drop p = j.flat ++ J.flats l3 := by
            rw [HP.out, HROOT.out, HL.out, flats_append, flats_cons, Nat.add_comm, List.drop_succ_cons, List.drop_left' rfl]
          obtain ⟨hpt, hpx⟩ := head_flat HDP
          obtain ⟨x0, e1, x2, x3, e4⟩ := HC.out p hpt
          clear x0 x2 x3
          rw [hpx] at e1 e4
          simp only [hqq.out] at e4
          have o0 := Old.trans OW.out HO.out
          have c1 := o0.cell e1
          have c4 := o0.cell e4
          have NP := hide (show NodesIs w (.slice (some ⟨b1, o1 + p * 5, none⟩) q (cap - p)) j.flat from by
            have h1 := HN0.out
            rw [← HT.out] at h1
            have h2 := Sl.piece h1 p q (cap - p) (by rw [HT.out]; omega) (by omega) (by unfold maxLen; omega)
            rwa [HDP, List.take_left' hqq.out] at h2)
          obtain ⟨SJ, hSJ⟩ : ∃ SJ : ByteArray, Hid (⟨j.show.toArray⟩ = SJ) := ⟨_, hide rfl⟩
          have hjn : NumsOk j.flat := fun x hx => HRO.1 x (by rw [flats_cons]; simp [hx])
          have hjs : Short j.flat := fun x hx => HRO.2 x (by rw [flats_cons]; simp [hx])
          have hjsz : SJ.size ≤ 50331776000 := by
            have h1 := show_room.1 j hjn
            have h2 := short_room hjs (by rw [hqq.out]; omega)
            rw [← hSJ.out]
            have : (⟨j.show.toArray⟩ : ByteArray).size = j.show.length := by simp [ByteArray.size]
            omega
          have hjk := kid_oks HOK.out l1.length (by rw [HL.out]; simp)
          have hjx : l[l1.length]'(by rw [HL.out]; simp) = j := by simp [HL.out]
          rw [hjx] at hjk
          have CR := hide (show ∀ w', Old wr w' → Calls Tryd.prog 30 #[.slice (some ⟨b1, o1 + p * 5, none⟩) q (cap - p)] w' fun e w2 => e = .returned (.string SJ) ∧ Old w' w2 from fun w' o => by
            have := IH.out q (by omega) j _ w' hqq.out (NP.out.old (Old.trans o0 o)) (by omega) hjk.1 hjn hjs
            rwa [hSJ.out] at this)
          have hkey : j.key.size ≤ 1048576 := by
            obtain ⟨r, hr⟩ := flat_head j
            exact (hjs _ (by rw [hr]; exact List.mem_cons_self)).1
          have hw1 : IntKind.i64.wrap ((p : Int) + (q : Int)) = (p : Int) + (q : Int) := IntWalk.i64_in _ (by omega)
          clear HNN HRO hpx hpt e1 e4 o0 hjn hjs hjk hjx hll HDP
          by_cases hf : (p : Int) > 1
          · have HF := hide (show l1.isEmpty = false by cases l1 with | nil => (exfalso; have := HP.out; simp [J.flats] at this; omega) | cons _ _ => rfl)
            go_wp2_with fail
            refine (CR.out _ (Old.refl _)).mono ?_
            rintro e w4 ⟨rfl, o4⟩
            have O4 := hide (Old.trans HO.out o4)
            have c4 := o4.cell c4
            clear o4
            go_wp2_with fail
            go_roundw
            case rel => exact ⟨l1 ++ [j], l3, p + q, _, rfl, by go_num, by omega, hide (by rw [shows_snoc, HS.out, ← hSJ.out]; apply ByteArray.ext; simp [partShow, HF.out]), hide (by rw [HL.out]; simp), hide (by rw [HP.out, flats_append, ← hqq.out]; simp [J.flats]; omega), O4⟩
            case measure => simp [intOf]; omega
          · have HF := hide (show l1.isEmpty = true by cases l1 with | nil => rfl | cons x l1 => (exfalso; have := HP.out; have := flat_pos x; rw [flats_cons, List.length_append] at *; omega))
            go_wp2_with fail
            refine (CR.out _ (Old.refl _)).mono ?_
            rintro e w4 ⟨rfl, o4⟩
            have O4 := hide (Old.trans HO.out o4)
            have c4 := o4.cell c4
            clear o4
            go_wp2_with fail
            go_roundw
            case rel => exact ⟨l1 ++ [j], l3, p + q, _, rfl, by go_num, by omega, hide (by rw [shows_snoc, HS.out, ← hSJ.out]; apply ByteArray.ext; simp [partShow, HF.out]), hide (by rw [HL.out]; simp), hide (by rw [HP.out, flats_append, ← hqq.out]; simp [J.flats]; omega), O4⟩
            case measure => simp [intOf]; omega
    · have JS := hide (show (J.mk h l).show = 123 :: (J.shows true true l ++ [125]) by simp [J.show, hk])
      rw [hk] at d0
      have HK := hide hk
      clear hk
      go_enter Tryd.func30, Tryd.ntmps30
      go_wp2_with fail
      obtain ⟨W, hW⟩ : ∃ W, Hid (w.alloc (.cells #[.int .i64 7, .string h.key, .int .i64 h.n, .string h.s, .int .i64 (((J.flats l).length : Int) + 1)] 50) = W) := ⟨_, hide rfl⟩
      rw [hW.out]
      have oW : Old w W := by rw [← hW.out]; exact Old.alloc (Old.refl _) _
      have OW := hide oW
      have KW := hide (show W.cell? ⟨w.heap.size, 0, none⟩ = some (.int .i64 7) by rw [← hW.out, cell_of_heap (heap_alloc_new w _)]; rfl)
      clear oW d0 d1 d2 d3 d4
      go_loopw [6, 7] (fun sv iv wr => ∃ (l1 l2 : List J) (p : Nat) (S : ByteArray), sv = .string S ∧ iv = .int .i64 p ∧ p ≤ N ∧ Hid (S = ⟨(J.shows true true l1).toArray⟩) ∧ Hid (l = l1 ++ l2) ∧ Hid (p = 1 + (J.flats l1).length) ∧ Hid (Old W wr)) (fun _ iv _ => N - (intOf iv).toNat)
      case atStart => exact ⟨[], l, 1, ⟨#[]⟩, rfl, rfl, by omega, hide (by rw [shows_nil]), hide rfl, hide (by simp [J.flats]), hide (Old.refl _)⟩
      case round =>
        obtain ⟨l1, l2, p, S, rfl, rfl, hp, HS, HL, HP, HO⟩ := hrel
        obtain ⟨hll, HNN, HRO⟩ := shown_facts true HROOT.out HNUM.out HSH.out (by rw [HT.out]; exact hl) HL.out
        rw [HT.out] at HNN
        have hsz : S.size ≤ 50331776000 := by rw [HS.out]; simpa [ByteArray.size] using hll
        have hkw := HO.out.cell KW.out
        cases l2 with
        | nil =>
          have hpN : p = N := by rw [HP.out, HNN]; simp [J.flats]
          have EQ := hide (show l1 = l by rw [HL.out]; simp)
          have hlt : ¬ (p : Int) < (N : Int) := by omega
          clear hll hpN HNN HRO
          go_wp2_with fail
          go_ret
          refine ⟨?_, Old.trans OW.out HO.out⟩
          rw [JS.out, HS.out, EQ.out]
          simp [bytes_app]
        | cons j l3 =>
          rw [flats_cons, List.length_append] at HNN
          have hq := flat_pos j
          obtain ⟨q, hqq⟩ : ∃ q, Hid (j.flat.length = q) := ⟨_, hide rfl⟩
          rw [hqq.out] at HNN hq
          have hlt : (p : Int) < (N : Int) := by have := HP.out; omega
          have hpq : p + q ≤ N := by have := HP.out; omega
          have HDP : t.drop p = j.flat ++ J.flats l3 := by
            rw [HP.out, HROOT.out, HL.out, flats_append, flats_cons, Nat.add_comm, List.drop_succ_cons, List.drop_left' rfl]
          obtain ⟨hpt, hpx⟩ := head_flat HDP
          obtain ⟨x0, e1, x2, x3, e4⟩ := HC.out p hpt
          clear x0 x2 x3
          rw [hpx] at e1 e4
          simp only [hqq.out] at e4
          have o0 := Old.trans OW.out HO.out
          have c1 := o0.cell e1
          have c4 := o0.cell e4
          have NP := hide (show NodesIs w (.slice (some ⟨b1, o1 + p * 5, none⟩) q (cap - p)) j.flat from by
            have h1 := HN0.out
            rw [← HT.out] at h1
            have h2 := Sl.piece h1 p q (cap - p) (by rw [HT.out]; omega) (by omega) (by unfold maxLen; omega)
            rwa [HDP, List.take_left' hqq.out] at h2)
          obtain ⟨SJ, hSJ⟩ : ∃ SJ : ByteArray, Hid (⟨j.show.toArray⟩ = SJ) := ⟨_, hide rfl⟩
          have hjn : NumsOk j.flat := fun x hx => HRO.1 x (by rw [flats_cons]; simp [hx])
          have hjs : Short j.flat := fun x hx => HRO.2 x (by rw [flats_cons]; simp [hx])
          have hjsz : SJ.size ≤ 50331776000 := by
            have h1 := show_room.1 j hjn
            have h2 := short_room hjs (by rw [hqq.out]; omega)
            rw [← hSJ.out]
            have : (⟨j.show.toArray⟩ : ByteArray).size = j.show.length := by simp [ByteArray.size]
            omega
          have hjk := kid_oks HOK.out l1.length (by rw [HL.out]; simp)
          have hjx : l[l1.length]'(by rw [HL.out]; simp) = j := by simp [HL.out]
          rw [hjx] at hjk
          have CR := hide (show ∀ w', Old wr w' → Calls Tryd.prog 30 #[.slice (some ⟨b1, o1 + p * 5, none⟩) q (cap - p)] w' fun e w2 => e = .returned (.string SJ) ∧ Old w' w2 from fun w' o => by
            have := IH.out q (by omega) j _ w' hqq.out (NP.out.old (Old.trans o0 o)) (by omega) hjk.1 hjn hjs
            rwa [hSJ.out] at this)
          have hkey : j.key.size ≤ 1048576 := by
            obtain ⟨r, hr⟩ := flat_head j
            exact (hjs _ (by rw [hr]; exact List.mem_cons_self)).1
          have hw1 : IntKind.i64.wrap ((p : Int) + (q : Int)) = (p : Int) + (q : Int) := IntWalk.i64_in _ (by omega)
          have HVK := hide (hjk.2.2 HK.out)
          obtain ⟨SQ, hSQ⟩ : ∃ SQ : ByteArray, Hid (⟨(quoteL j.key).toArray⟩ = SQ) := ⟨_, hide rfl⟩
          have hsq : SQ.size ≤ 6291458 := by
            rw [← hSQ.out]
            have := (quoteL_len j.key).2
            have : (⟨(quoteL j.key).toArray⟩ : ByteArray).size = (quoteL j.key).length := by simp [ByteArray.size]
            omega
          have CQ := hide (fun w' => rquote_ok j.key w' (by omega) HVK.out)
          rw [hSQ.out] at CQ
          clear HNN HRO hpx hpt e1 e4 o0 hjn hjs hjk hjx hll HDP
          by_cases hf : (p : Int) > 1
          · have HF := hide (show l1.isEmpty = false by cases l1 with | nil => (exfalso; have := HP.out; simp [J.flats] at this; omega) | cons _ _ => rfl)
            go_wp2_with fail
            refine (CQ.out _).mono ?_
            rintro e w3 ⟨rfl, o3⟩
            have O3 := hide o3
            have c4 := o3.cell c4
            have hkw := o3.cell hkw
            clear o3
            go_wp2_with fail
            refine (CR.out _ O3.out).mono ?_
            rintro e w4 ⟨rfl, o4⟩
            have O4 := hide (Old.trans HO.out (Old.trans O3.out o4))
            have c4 := o4.cell c4
            clear o4
            go_wp2_with fail
            go_roundw
            case rel => exact ⟨l1 ++ [j], l3, p + q, _, rfl, by go_num, by omega, hide (by rw [shows_snoc, HS.out, ← hSJ.out, ← hSQ.out]; apply ByteArray.ext; simp [partShow, HF.out]), hide (by rw [HL.out]; simp), hide (by rw [HP.out, flats_append, ← hqq.out]; simp [J.flats]; omega), O4⟩
            case measure => simp [intOf]; omega
          · have HF := hide (show l1.isEmpty = true by cases l1 with | nil => rfl | cons x l1 => (exfalso; have := HP.out; have := flat_pos x; rw [flats_cons, List.length_append] at *; omega))
            go_wp2_with fail
            refine (CQ.out _).mono ?_
            rintro e w3 ⟨rfl, o3⟩
            have O3 := hide o3
            have c4 := o3.cell c4
            have hkw := o3.cell hkw
            clear o3
            go_wp2_with fail
            refine (CR.out _ O3.out).mono ?_
            rintro e w4 ⟨rfl, o4⟩
            have O4 := hide (Old.trans HO.out (Old.trans O3.out o4))
            have c4 := o4.cell c4
            clear o4
            go_wp2_with fail
            go_roundw
            case rel => exact ⟨l1 ++ [j], l3, p + q, _, rfl, by go_num, by omega, hide (by rw [shows_snoc, HS.out, ← hSJ.out, ← hSQ.out]; apply ByteArray.ext; simp [partShow, HF.out]), hide (by rw [HL.out]; simp), hide (by rw [HP.out, flats_append, ← hqq.out]; simp [J.flats]; omega), O4⟩
            case measure => simp [intOf]; omega
end Go.Proofs.YtmolmphbhdbcaaaDoor
