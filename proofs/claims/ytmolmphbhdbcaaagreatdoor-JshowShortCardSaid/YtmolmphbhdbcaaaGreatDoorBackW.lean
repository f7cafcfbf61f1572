/- JshowBack: what is shown is read as the tape that it is of. -/
import Derived.Test.YtmolmphbhdbcaaaGreatDoorJr13
import Derived.Test.YtmolmphbhdbcaaaGreatDoorShortL
import Derived.Test.YtmolmphbhdbcaaaGreatDoorWorks8
import Derived.Test.YtmolmphbhdbcaaaGreatDoorSeeds
namespace Go.Proofs.YtmolmphbhdbcaaaGreatDoor
open Go.RowKit

/-- a value that may be, fine to be shown: its text is read as it is -/
structure Shown (C : Nat) (t : List Nd) (j : J) : Prop where
  may : May t j
  fine : Fine C t
  len : j.show.length ≤ 1000000
theorem Shown.nums {C : Nat} {t : List Nd} {j : J} (h : Shown C t j) : NumsOk t := h.fine.nums
theorem Shown.flat {C : Nat} {t : List Nd} {j : J} (h : Shown C t j) : t = j.flat := h.may.1.2.2
theorem Shown.back {C : Nat} {t : List Nd} {j : J} (h : Shown C t j) : parseV j.show = .ok j := show_back h.may h.nums (by have := h.len; omega)
theorem Shown.says {C : Nat} {t : List Nd} {j : J} (h : Shown C t j) : ShowT t j.show 0 := .inr ⟨j, h.may, .inl ⟨by have := h.len; unfold maxText; omega, rfl, rfl⟩⟩
theorem shown_of {C : Nat} {t : List Nd} {j : J} (hm : May t j) (hf : Fine C t) (hr : t.length * (12 * C + 32) ≤ 1000000) : Shown C t j := by
  refine ⟨hm, hf, ?_⟩
  have e := hm.1.2.2
  have h1 := show_room.1 j (by rw [← e]; exact hf.nums)
  have h2 := room_le (C := C) (t := t) fun x hx => ⟨(hf.every x hx).1, (hf.every x hx).2.1⟩
  rw [← e] at h1
  omega
theorem fine_tiny {t : List Nd} (h : Tiny t) (hl : t.length ≤ 301) : Fine 5 t where
  every := fun x hx => by have := h x hx; omega
  small := by omega
  room := by
    have h1 : t.length * (12 * 5 + 32) ≤ 301 * 92 := Nat.mul_le_mul hl (by omega)
    have h2 : t.length * (t.length * (12 * 5 + 32)) ≤ 301 * (301 * 92) := Nat.mul_le_mul hl h1
    omega
theorem shown_tiny {t : List Nd} {j : J} (hm : May t j) (h : Tiny t) (hl : t.length ≤ 301) : Shown 5 t j :=
  shown_of hm (fine_tiny h hl) (by have : t.length * (12 * 5 + 32) ≤ 301 * 92 := Nat.mul_le_mul hl (by omega); omega)
theorem out_list (l : List UInt8) : (⟨l.toArray⟩ : ByteArray).data.toList = l := by simp
theorem out_size (l : List UInt8) : (⟨l.toArray⟩ : ByteArray).size = l.length := by simp [ByteArray.size]
/-- Parse, where the text is a value's -/
theorem parse_ok (X : ByteArray) (j : J) (w : World) (hX : X.size ≤ 1073741824) (hp : parseV X.data.toList = .ok j) (hE : Errs w) (hT : Tabs w) :
    Calls Tryz.prog 6 #[.string X] w fun e w' => (∃ v, e = .returned (.tuple #[v, .int .i64 0, .int .i64 0]) ∧ NodesT w.heap.size w' v j.flat) ∧ Old w w' :=
  (jparse_run X w hX hE hT).mono fun e w' h => ⟨by
    have h1 := h.1
    unfold JParsed at h1
    rw [hp] at h1
    obtain ⟨v, h2, h3⟩ := h1
    exact ⟨v, h2, SlT.of_own h3⟩, h.2⟩
theorem nd_form' {base M : Nat} {w : World} {v : Value} {t : List Nd} (h : NodesT base w v t) (hm : t.length = M) : ∃ A c, v = .slice A M c ∧ M ≤ c ∧ c ≤ maxLen := by
  obtain ⟨A, c, rfl, h1, h2, _⟩ := h
  exact ⟨A, c, by rw [hm], by omega, h2⟩
theorem same_self (l : List Nd) : sameNds l l = true := by simp [sameNds]
set_option maxRecDepth 100000 in
set_option maxHeartbeats 4000000 in
theorem jback_walk (u : Value) (l : List Int) (w : World) (h : NumsIs w u l) (hT : Tabs w) (hE : Errs w) (hP : PowTab w) :
    Calls Tryz.prog 4 #[.agg #[u]] w fun e w' => e = .returned (.bool true) ∧ Old w w' := by
  have HT := hide hT
  have HE := hide hE
  have HP := hide hP
  have CD := hide (fun (w' : World) (o : Old w w') => drawn_run u l w' (Sl.old h o) (hT.old o))
  have CWK := hide (fun (w' : World) (o : Old w w') => works_run w' (hT.old o) (hP.old o))
  clear h hT hE hP
  go_enter Tryz.func4, Tryz.ntmps4
  go_wp2_with fail
  refine (CWK.out _ (Old.alloc (Old.refl _) _)).mono ?_
  rintro e w0 ⟨rfl, o0⟩
  have O0 := hide (Old.trans (Old.alloc (Old.refl _) _) o0)
  have hbox : w0.cell? ⟨w.heap.size, 0, none⟩ = some u := o0.cell ((cell_of_heap (heap_alloc_new w _)).trans rfl)
  clear o0
  go_wp2_with fail
  refine (CD.out _ O0.out).mono ?_
  rintro e w1 ⟨v, t, j, rfl, n1, m1, x1, d1, l1, o1⟩
  obtain ⟨M, hM⟩ : ∃ M, Hid (t.length = M) := ⟨_, hide rfl⟩
  obtain ⟨A, c, rfl, _, _⟩ := nd_form' n1 hM.out
  have O1 := hide (Old.trans O0.out o1)
  have N1 := hide (SlT.sl n1)
  have SH := hide (shown_tiny m1 x1 l1)
  have hMp : 0 < M := by rw [← hM.out, m1.1.2.2]; exact flat_pos j
  have hMi : (0 : Int) < (M : Int) := by omega
  have CS := hide (show_run 5 _ t _ 0 w1 (SlT.sl n1) SH.out.fine (HT.out.old O1.out) (HP.out.old O1.out) SH.out.says)
  obtain ⟨X, hX⟩ : ∃ X : ByteArray, Hid ((⟨j.show.toArray⟩ : ByteArray) = X) := ⟨_, hide rfl⟩
  have HXL := hide (show parseV X.data.toList = .ok j by rw [← hX.out, out_list]; exact SH.out.back)
  have hXs : X.size ≤ 1000000 := by rw [← hX.out, out_size]; exact SH.out.len
  have HF := hide SH.out.flat
  unfold strE at CS
  rw [hX.out] at CS
  clear n1 m1 x1 d1 l1 o1 CD hbox
  go_wp2_with fail
  refine CS.out.mono ?_
  rintro e w2 ⟨rfl, o2⟩
  have O2 := hide (Old.trans O1.out o2)
  have N2 := hide (N1.out.old o2)
  clear o2 CS
  go_wp2_with fail
  refine (parse_ok X j w2 (by omega) HXL.out (HE.out.old O2.out) (HT.out.old O2.out)).mono ?_
  rintro e w3 ⟨⟨v3, rfl, n3⟩, o3⟩
  have O3 := hide (Old.trans O2.out o3)
  have N3 := hide (N2.out.old o3)
  rw [← HF.out] at n3
  have CE := hide (law_eq _ _ t t w3 N3.out (SlT.sl n3))
  rw [same_self] at CE
  clear o3 n3
  go_wp2_with fail
  refine CE.out.mono ?_
  rintro e w4 ⟨rfl, o4⟩
  have O4 := hide (Old.trans O3.out o4)
  clear o4
  go_wp2_with fail
  go_ret
  exact ⟨rfl, O4.out⟩
end Go.Proofs.YtmolmphbhdbcaaaGreatDoor
