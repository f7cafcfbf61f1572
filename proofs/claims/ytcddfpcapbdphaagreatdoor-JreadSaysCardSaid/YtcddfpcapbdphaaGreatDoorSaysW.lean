/- JreadSays: a text of JSON is read as what it says, whatever blanks stand ahead and behind: the plain law, and the walk. -/
import Derived.Test.YtcddfpcapbdphaaGreatDoorWorks7
import Derived.Test.YtcddfpcapbdphaaGreatDoorSeedC
import Derived.Lib.Repeat
namespace Go.Proofs.YtcddfpcapbdphaaGreatDoor
open Go.RowKit

theorem blanks_rep (c : Nat) : Blanks (Lib.repeatL [32, 10, 9, 13] c) := by
  induction c with
  | zero => intro x hx; simp [Lib.repeatL] at hx
  | succ c ih =>
    intro x hx
    rw [Lib.repeatL] at hx
    rcases List.mem_append.1 hx with hx | hx
    · have h : ∀ y ∈ ([32, 10, 9, 13] : List UInt8), isBlank y = true := by decide
      exact h x hx
    · exact ih x hx
theorem txt_mid {l b b' : List UInt8} {j : J} (h : Txt l j) (hb : Blanks b) (hb' : Blanks b') (hl : (b ++ (l ++ b')).length ≤ 1048576) : parseV (b ++ (l ++ b')) = .ok j := parse_mid ⟨⟨b, l, b', rfl, hb, hb', h⟩⟩ hl
theorem repeat4 (m : Nat) (w : World) (hm : m ≤ 8) : Calls Tryz.prog 8 #[.string ⟨#[32, 10, 9, 13]⟩, .int .i64 (m : Int)] w fun e w' => e = .returned (.string ⟨(Lib.repeatL [32, 10, 9, 13] m).toArray⟩) ∧ Old w w' := by
  have h1 : (⟨#[32, 10, 9, 13]⟩ : ByteArray).size = 4 := rfl
  have h2 : (⟨#[32, 10, 9, 13]⟩ : ByteArray).data.toList = [32, 10, 9, 13] := rfl
  have h := Tryz.strings_Repeat ⟨#[32, 10, 9, 13]⟩ m w (by omega) (by rw [h1]; omega)
  rw [h2] at h
  exact h
theorem nd_is {base : Nat} {w : World} {v : Value} {t : List Nd} (h : NodesT base w v t) : NodesIs w v t := SlT.sl h
set_option maxRecDepth 100000 in
set_option maxHeartbeats 4000000 in
theorem jsays_walk (u : Value) (l : List Int) (many : Int) (w : World) (h : NumsIs w u l) (hT : Tabs w) (hE : Errs w) (hP : PowTab w) :
    Calls Tryz.prog 4 #[.agg #[u], .int .i64 many] w fun e w' => e = .returned (.bool true) ∧ Old w w' := by
  have HT := hide hT
  have HE := hide hE
  have CD := hide (fun (w' : World) (o : Old w w') => drawn_run u l w' (Sl.old h o) (hT.old o) (hP.old o))
  have CWK := hide (fun (w' : World) (o : Old w w') => works_run w' (hE.old o) (hT.old o))
  clear h hT hE hP
  go_enter Tryz.func4, Tryz.ntmps4
  go_wp2_with fail
  refine (CWK.out _ (Old.alloc (Old.refl _) _)).mono ?_
  rintro e w0 ⟨rfl, o0⟩
  have O0 := hide (Old.trans (Old.alloc (Old.refl _) _) o0)
  have hbox : w0.cell? ⟨w.heap.size, 0, none⟩ = some u := o0.cell ((cell_of_heap (heap_alloc_new w _)).trans rfl)
  clear o0
  go_wp2_with fail
  refine (CD.out _ O0.out).mono ?_
  rintro e w1 ⟨v, S, j, rfl, n1, x1, z1, o1⟩
  have O1 := hide (Old.trans O0.out o1)
  have N1 := hide (nd_is n1)
  have X1 := hide x1
  have hlen := (txt_may x1.val).1
  clear n1 x1 o1 CD hbox
  go_wp2_with fail
  refine (bring_k many 9 _ (by decide) (by decide)).mono ?_
  rintro e w2 ⟨⟨k, hk, rfl⟩, rfl⟩
  have CR := hide (repeat4 k w1 (by omega))
  obtain ⟨B, hB⟩ : ∃ B : ByteArray, Hid ((⟨(Lib.repeatL [32, 10, 9, 13] k).toArray⟩ : ByteArray) = B) := ⟨_, hide rfl⟩
  have HBL := hide (show B.data.toList = Lib.repeatL [32, 10, 9, 13] k by rw [← hB.out])
  have hBs : B.size ≤ 32 := by
    rw [← list_size, HBL.out, Lib.repeatL_length]
    simp only [List.length_cons, List.length_nil]
    omega
  rw [hB.out] at CR
  have HPM := hide (show parseV (B ++ S ++ B : ByteArray).data.toList = .ok j by
    rw [app_list, app_list, List.append_assoc, HBL.out]
    refine txt_mid X1.out (blanks_rep k) (blanks_rep k) ?_
    rw [← HBL.out]
    simp only [List.length_append, list_size]
    omega)
  go_wp2_with fail
  refine CR.out.mono ?_
  rintro e w3 ⟨rfl, o3⟩
  have O3 := hide (Old.trans O1.out o3)
  have N3 := hide (N1.out.old o3)
  clear o3 CR
  go_wp2_with fail
  refine (reads_ok S v j.flat j w3 (by omega) (HE.out.old O3.out) (HT.out.old O3.out) X1.out.val rfl N3.out hlen).mono ?_
  rintro e w4 ⟨rfl, o4⟩
  have O4 := hide (Old.trans O3.out o4)
  have N4 := hide (N3.out.old o4)
  clear o4
  go_wp2_with fail
  refine (reads_ok _ v j.flat j w4 (by simp only [ByteArray.size_append]; omega) (HE.out.old O4.out) (HT.out.old O4.out) HPM.out rfl N4.out hlen).mono ?_
  rintro e w5 ⟨rfl, o5⟩
  have O5 := hide (Old.trans O4.out o5)
  clear o5
  go_wp2_with fail
  go_ret
  exact ⟨rfl, O5.out⟩
end Go.Proofs.YtcddfpcapbdphaaGreatDoor
