/-  -/
import Derived.Test.YthlfljmfggmfdaaGreatDoorQk03
import Derived.Test.YthlfljmfggmfdaaGreatDoorQk02
/-! ###  -/
namespace Go.Proofs.YthlfljmfggmfdaaGreatDoor
open Go.RowKit
def Tabs (w : World) : Prop := Lib.Utf8Tabs (Tryz.lays196_ren.g 3) (Tryz.lays196_ren.g 4) w
theorem Tabs.old {w w' : World} (h : Tabs w) (ho : Old w w') : Tabs w' := Utf8Tabs_below h ho
def vU (s : ByteArray) : Bool := Lib.validD s.data.toList
set_option maxRecDepth 100000 in
theorem utf_Valid (s : ByteArray) (w : World) (hs : s.size ≤ 9223372036854775807) (hT : Tabs w) :
 Calls Tryz.prog 66 #[.string s] w fun e w' => e = .returned (.bool (vU s)) ∧ Old w w' := by
 have cV : Calls Tryz.prog 105 #[.string s] w fun e w' => e = .returned (.bool (vU s)) ∧ Old w w' := Any.utf8_ValidString Tryz.lays196 s w hs hT
 have HC := hide cV
 clear cV
 go_enter Tryz.func66, Tryz.ntmps66
 go_wp2_with fail
 refine HC.out.mono ?_
 rintro e w1 ⟨rfl, h1⟩
 go_wp2_with fail
 go_ret
 exact ⟨rfl, h1⟩
end Go.Proofs.YthlfljmfggmfdaaGreatDoor

/-! ###  -/
namespace Go.Proofs.YthlfljmfggmfdaaGreatDoor
open Go.RowKit
theorem sameNd_plain (x : Nd) (z : Int) : sameNd x ⟨x.kind, x.key, 0, none_, z⟩ = (decide (x.n = 0) && decide (x.s = none_) && decide (x.size = z)) := by
 cases x
 simp [sameNd, Bool.and_assoc]
theorem str_none (s : ByteArray) : s.toList = [] ↔ s = none_ := by
 constructor
 · intro h
   exact bytes_ext (by rw [h, ByteArray.toList_eq]; rfl)
 · intro h
   rw [h, ByteArray.toList_eq]; rfl
set_option maxRecDepth 100000 in
set_option maxHeartbeats 1000000 in
theorem fits_run (x : Nd) (w : World) (hs : x.s.size ≤ 9223372036854775807) (hT : Tabs w) :
 Calls Tryz.prog 118 #[.agg #[.int .i64 x.kind, .string x.key, .int .i64 x.n, .string x.s, .int .i64 x.size]] w fun e w' => e = .returned (.bool (fitsB vU x)) ∧ Old w w' := by
 have CV := hide (show ∀ w', Old w w' → Calls Tryz.prog 66 #[.string x.s] w' fun e w2 => e = .returned (.bool (vU x.s)) ∧ Old w w2 from fun w' h => (utf_Valid _ _ hs (hT.old h)).mono fun _ _ q => ⟨q.1, Old.trans h q.2⟩)
 have E1 : ∀ w, (binOp .eql 36 (.agg #[.int .i64 x.kind, .string x.key, .int .i64 x.n, .string x.s, .int .i64 x.size]) (.agg #[.int .i64 x.kind, .string x.key, .int .i64 0, .string ⟨#[]⟩, .int .i64 x.size])).run Tryz.prog w = .ok (.bool (sameNd x ⟨x.kind, x.key, 0, none_, x.size⟩)) w := fun w => eql_node x ⟨x.kind, x.key, 0, none_, x.size⟩ w
 have E2 : ∀ w, (binOp .eql 36 (.agg #[.int .i64 x.kind, .string x.key, .int .i64 x.n, .string x.s, .int .i64 x.size]) (.agg #[.int .i64 x.kind, .string x.key, .int .i64 0, .string ⟨#[]⟩, .int .i64 1])).run Tryz.prog w = .ok (.bool (sameNd x ⟨x.kind, x.key, 0, none_, 1⟩)) w := fun w => eql_node x ⟨x.kind, x.key, 0, none_, 1⟩ w
 have P1 := hide (sameNd_plain x x.size)
 have P2 := hide (sameNd_plain x 1)
 obtain ⟨A, hA⟩ : ∃ A, Hid (fitsB vU x = A) := ⟨_, hide rfl⟩
 rw [hA.out]
 clear hs hT
 by_cases k4 : x.kind = 4
 · have k4' : (x.kind == 4) = true := by simpa using k4
   have HA := hide (show A = (decide (x.size = 1) && decide (x.s = none_)) by rw [← hA.out, fitsB, if_pos k4])
   clear k4 hA
   by_cases h1 : x.size = 1
   · have h1' : (x.size == 1) = true := by simpa using h1
     have H1 := hide h1
     clear h1
     by_cases h2 : x.s = none_
     · have h2' : x.s.toList = [] := (str_none _).2 h2
       have H2 := hide h2
       clear h2
       go_enter Tryz.func118, Tryz.ntmps118
       go_wp2_with fail
       go_ret
       exact ⟨ret_bool (by rw [HA.out]; simp [H1.out, H2.out]), (Old.refl w).alloc _⟩
     · have h2' : ¬ x.s.toList = [] := fun h => h2 ((str_none _).1 h)
       have H2 := hide h2
       clear h2
       go_enter Tryz.func118, Tryz.ntmps118
       go_wp2_with fail
       go_ret
       exact ⟨ret_bool (by rw [HA.out]; simp [H1.out, H2.out, h2']), (Old.refl w).alloc _⟩
   · have h1' : (x.size == 1) = false := by simpa using h1
     have H1 := hide h1
     clear h1
     go_enter Tryz.func118, Tryz.ntmps118
     go_wp2_with fail
     go_ret
     exact ⟨ret_bool (by rw [HA.out]; simp [H1.out]), (Old.refl w).alloc _⟩
 · have k4' : (x.kind == 4) = false := by simpa using k4
   by_cases k5 : x.kind = 5
   · have k5' : (x.kind == 5) = true := by simpa using k5
     have HA := hide (show A = (decide (x.size = 1) && decide (x.n = 0) && vU x.s) by rw [← hA.out, fitsB, if_neg k4, if_pos k5])
     clear k4 k5 hA
     by_cases h1 : x.size = 1
     · have h1' : (x.size == 1) = true := by simpa using h1
       have H1 := hide h1
       clear h1
       by_cases h2 : x.n = 0
       · have h2' : (x.n == 0) = true := by simpa using h2
         have H2 := hide h2
         clear h2
         go_enter Tryz.func118, Tryz.ntmps118
         go_wp2_with fail
         refine (CV.out _ ((Old.refl w).alloc _)).mono ?_
         rintro e w1 ⟨rfl, h1⟩
         go_wp2_with fail
         go_ret
         exact ⟨ret_bool (by rw [HA.out]; simp [H1.out, H2.out]), h1⟩
       · have h2' : (x.n == 0) = false := by simpa using h2
         have H2 := hide h2
         clear h2
         go_enter Tryz.func118, Tryz.ntmps118
         go_wp2_with fail
         go_ret
         exact ⟨ret_bool (by rw [HA.out]; simp [H2.out]), (Old.refl w).alloc _⟩
     · have h1' : (x.size == 1) = false := by simpa using h1
       have H1 := hide h1
       clear h1
       go_enter Tryz.func118, Tryz.ntmps118
       go_wp2_with fail
       go_ret
       exact ⟨ret_bool (by rw [HA.out]; simp [H1.out]), (Old.refl w).alloc _⟩
   · have k5' : (x.kind == 5) = false := by simpa using k5
     by_cases k67 : x.kind = 6 ∨ x.kind = 7
     · have HA := hide (show A = (decide (x.n = 0) && decide (x.s = none_)) by rw [← hA.out, fitsB, if_neg k4, if_neg k5, if_pos k67])
       clear k4 k5 hA
       by_cases k6 : x.kind = 6
       · have k6' : (x.kind == 6) = true := by simpa using k6
         clear k6 k67
         go_enter Tryz.func118, Tryz.ntmps118
         go_wp2_with fail
         go_ret
         exact ⟨ret_bool (by rw [HA.out, P1.out]; simp), (Old.refl w).alloc _⟩
       · have k6' : (x.kind == 6) = false := by simpa using k6
         have k7' : (x.kind == 7) = true := by simp; omega
         clear k6 k67
         go_enter Tryz.func118, Tryz.ntmps118
         go_wp2_with fail
         go_ret
         exact ⟨ret_bool (by rw [HA.out, P1.out]; simp), (Old.refl w).alloc _⟩
     · have k6' : (x.kind == 6) = false := by simp; omega
       have k7' : (x.kind == 7) = false := by simp; omega
       have HA := hide (show A = (decide (1 ≤ x.kind) && decide (x.kind < 4) && (decide (x.n = 0) && decide (x.s = none_) && decide (x.size = 1))) by rw [← hA.out, fitsB, if_neg k4, if_neg k5, if_neg k67])
       clear k4 k5 k67 hA
       by_cases a1 : 1 ≤ x.kind
       · by_cases a2 : x.kind < 4
         · have a1' : decide (1 ≤ x.kind) = true := decide_eq_true a1
           have a2' : decide (x.kind < 4) = true := decide_eq_true a2
           go_enter Tryz.func118, Tryz.ntmps118
           go_wp2_with fail
           go_ret
           exact ⟨ret_bool (by rw [HA.out, P2.out]; simp [a1, a2]), (Old.refl w).alloc _⟩
         · have a2' : decide (x.kind < 4) = false := decide_eq_false a2
           have a1' : decide (1 ≤ x.kind) = true := decide_eq_true a1
           go_enter Tryz.func118, Tryz.ntmps118
           go_wp2_with fail
           go_ret
           exact ⟨ret_bool (by rw [HA.out]; simp; intros; omega), (Old.refl w).alloc _⟩
       · have a1' : decide (1 ≤ x.kind) = false := decide_eq_false a1
         go_enter Tryz.func118, Tryz.ntmps118
         go_wp2_with fail
         go_ret
         exact ⟨ret_bool (by rw [HA.out]; simp; intros; omega), (Old.refl w).alloc _⟩
end Go.Proofs.YthlfljmfggmfdaaGreatDoor
