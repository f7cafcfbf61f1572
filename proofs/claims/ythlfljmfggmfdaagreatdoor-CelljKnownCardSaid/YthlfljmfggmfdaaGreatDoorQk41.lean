/-  -/
import Derived.Test.YthlfljmfggmfdaaGreatDoorQk29
import Derived.Test.YthlfljmfggmfdaaGreatDoorQk38
import Derived.Test.YthlfljmfggmfdaaGreatDoorQk40
import Derived.Test.YthlfljmfggmfdaaGreatDoorRows
import Derived.Test.YthlfljmfggmfdaaGreatDoorQk06
import Derived.Deep.Slices
import Derived.Deep.Fields
import Derived.ChangeSame
import Derived.Below
import Derived.Carry
import Derived.ProofKit
import Derived.OpenShut
import Derived.Lib.LaidU8T
import Derived.Lib.LaidIn
import Derived.PinnedBridge
import Derived.MakeChecks
import Derived.Stop.Joined
import Derived.Test.YthlfljmfggmfdaaGreatDoorQk16
import Derived.Test.YthlfljmfggmfdaaGreatDoorQk34
import Derived.Stop.LaidErr
/-! ###  -/
namespace Go.Proofs.YthlfljmfggmfdaaGreatDoor
open Go.RowKit
def rowV (cols : List Col) (j : J) : List Cell × Int := if j.hd.kind ≠ 7 ∨ j.kids.length ≠ cols.length ∨ cols.any (fun c => (findM j.kids c.name).isNone) = true then ([], 200) else match takenAll cols j.kids with
 | none => ([], 90)
 | some r => (r, 0)
theorem RowOf_V {cols : List Col} {t : List Nd} {j : J} (hn : namedB cols = true) (hk : cols.all (fun c => mayK c.kind) = true) (hm : May t j) : RowOf cols t (rowV cols j).1 (rowV cols j).2 := by
 obtain ⟨h, l⟩ := j
 refine .inr ⟨hn, fun c hc => List.all_eq_true.1 hk c hc, .inr ⟨h, l, hm, ?_⟩⟩
 unfold rowV
 by_cases hc : h.kind ≠ 7 ∨ l.length ≠ cols.length ∨ cols.any (fun c => (findM l c.name).isNone) = true
 · have e : ((if (J.mk h l).hd.kind ≠ 7 ∨ (J.mk h l).kids.length ≠ cols.length ∨ cols.any (fun c => (findM (J.mk h l).kids c.name).isNone) = true then (([] : List Cell), (200 : Int)) else match takenAll cols (J.mk h l).kids with
    | none => ([], 90)
    | some r => (r, 0))) = ([], 200) := if_pos hc
   rw [e]
   refine .inl ⟨?_, rfl, rfl⟩
   rcases hc with hc | hc | hc
   · exact .inl hc
   · exact .inr (.inl hc)
   · obtain ⟨c, h1, h2⟩ := List.any_eq_true.1 hc
     exact .inr (.inr ⟨c, h1, Option.isNone_iff_eq_none.1 h2⟩)
 · have e : ((if (J.mk h l).hd.kind ≠ 7 ∨ (J.mk h l).kids.length ≠ cols.length ∨ cols.any (fun c => (findM (J.mk h l).kids c.name).isNone) = true then (([] : List Cell), (200 : Int)) else match takenAll cols (J.mk h l).kids with
    | none => ([], 90)
    | some r => (r, 0))) = (match takenAll cols l with
    | none => ([], 90)
    | some r => (r, 0)) := if_neg hc
   rw [e]
   have h7 : h.kind = 7 := Classical.byContradiction fun q => hc (.inl q)
   have hl : l.length = cols.length := Classical.byContradiction fun q => hc (.inr (.inl q))
   refine .inr ⟨h7, hl, fun c hcm q => hc (.inr (.inr (List.any_eq_true.2 ⟨c, hcm, by rw [q]; rfl⟩))), ?_⟩
   cases takenAll cols l with
   | none => exact .inl ⟨rfl, rfl, rfl⟩
   | some r => exact .inr ⟨rfl, rfl⟩
theorem RowOf_is {cols : List Col} {t : List Nd} {j : J} {out : List Cell} {er : Int} (hn : namedB cols = true) (hk : cols.all (fun c => mayK c.kind) = true) (hm : May t j) (hv : rowV cols j = (out, er)) : RowOf cols t out er := by
 have := RowOf_V hn hk hm
 rwa [hv] at this
def zc : Cell := ⟨false, 0, ⟨#[]⟩⟩
def exC : List Col := [⟨0, ⟨#[105, 100]⟩, 2, false, zc⟩, ⟨0, ⟨#[115]⟩, 4, true, zc⟩, ⟨0, ⟨#[98]⟩, 5, false, zc⟩, ⟨0, ⟨#[116]⟩, 1, false, zc⟩]
theorem exC_named : namedB exC = true := by decide +kernel
theorem exC_kinds : exC.all (fun c => mayK c.kind) = true := by decide +kernel
theorem exC_names : ∀ c ∈ exC, c.name.size ≤ maxLen := by
 intro c hc
 simp only [exC, List.mem_cons, List.not_mem_nil, or_false] at hc
 rcases hc with rfl | rfl | rfl | rfl
 all_goals show _ ≤ maxLen; unfold maxLen; decide
abbrev ColsT (lo : Nat) (w : World) (v : Value) (l : List Col) : Prop := SlT 56 lo w v l.length (colVals l)
theorem cols_lit (w : World) (l : List Col) (c : Array Value) (h : c.toList = colVals l) (n : Nat) (hn : l.length = n) (hl : n ≤ 1048576) (lo : Nat) (hlo : lo ≤ w.heap.size) : ColsT lo (w.alloc (.cells c 56)) (.slice (some ⟨w.heap.size, 0, none⟩) n n) l := by
 subst hn
 refine ⟨_, _, rfl, Nat.le_refl _, by unfold maxLen; omega, fun _ => ⟨w.heap.size, 0, c, rfl, hlo, heap_alloc_new _ _, fun j u hu => ?_⟩⟩
 rw [← h] at hu
 simpa using hu
theorem cells_lit (w : World) (l : List Cell) (c : Array Value) (h : c.toList = rowVals l) (n : Nat) (hn : l.length = n) (hl : n ≤ 1048576) (lo : Nat) (hlo : lo ≤ w.heap.size) : CellsT lo (w.alloc (.cells c 38)) (.slice (some ⟨w.heap.size, 0, none⟩) n n) l := by
 subst hn
 refine ⟨_, _, rfl, Nat.le_refl _, by unfold maxLen; omega, fun _ => ⟨w.heap.size, 0, c, rfl, hlo, heap_alloc_new _ _, fun j u hu => ?_⟩⟩
 rw [← h] at hu
 simpa using hu
def NewColsT (w0 : World) (l : List Col) (e : Ending) (w' : World) : Prop := ∃ v, e = .returned v ∧ ColsT w0.heap.size w' v l ∧ Old w0 w'
set_option maxRecDepth 100000 in
theorem example19_run (w : World) : Calls Tryz.prog 52 #[] w (NewColsT w exC) := by
 go_enter Tryz.func52, Tryz.ntmps52
 go_wp2_with fail
 go_ret
 exact ⟨_, rfl, cols_lit w exC _ rfl 4 rfl (by omega) _ (Nat.le_refl _), Old.alloc (Old.refl _) _⟩
set_option maxRecDepth 100000 in
theorem shown_no (cv v : Value) (cols : List Col) (r : List Cell) (er : Int) (w : World) (hc : ColsIs w cv cols) (hr : RowIs w v r) (hnm : ∀ c ∈ cols, c.name.size ≤ maxLen) (hl : cols.length ≤ 4000) (hT : Tabs w) (ht : RowT cols r [] er) (h0 : er ≠ 0) :
 Calls Tryz.prog 51 #[cv, v] w (Ret (.tuple #[.string ⟨#[]⟩, .int .i64 er]) w) := by
 have CT := hide (tapeR_run cv v cols r [] er w hc hr hnm hl hT ht)
 obtain ⟨A, ca, rfl, _⟩ := hr.row
 obtain ⟨B, cb, rfl, _⟩ := cols_form hc
 have h1 : (er != 0) = true := by simp [h0]
 unfold Ret
 clear hc hr hnm hT ht h0
 go_enter Tryz.func51, Tryz.ntmps51
 go_wp2_with fail
 refine CT.out.mono ?_
 rintro e w1 ⟨v1, rfl, _, o1⟩
 have O1 := hide o1
 clear o1
 go_wp2_with fail
 go_ret2
 exact ⟨rfl, O1.out⟩
set_option maxRecDepth 100000 in
theorem shown_ok (cv v : Value) (cols : List Col) (r : List Cell) (t : List Nd) (txt : List UInt8) (C : Nat) (w : World) (hc : ColsIs w cv cols) (hr : RowIs w v r) (hnm : ∀ c ∈ cols, c.name.size ≤ maxLen) (hl : cols.length ≤ 4000) (hT : Tabs w) (hP : PowTab w) (ht : RowT cols r t 0) (hF : Fine C t) (hs : ShowT t txt 0) :
 Calls Tryz.prog 51 #[cv, v] w (Ret (.tuple #[.string ⟨txt.toArray⟩, .int .i64 0]) w) := by
 have CT := hide (tapeR_run cv v cols r t 0 w hc hr hnm hl hT ht)
 have CS := hide (fun v1 w' (o : Old w w') (hn : NodesIs w' v1 t) => show_run C v1 t txt 0 w' hn hF (hT.old o) (PowTab.old hP o) hs)
 obtain ⟨A, ca, rfl, _⟩ := hr.row
 obtain ⟨B, cb, rfl, _⟩ := cols_form hc
 unfold Ret
 unfold strE at CS
 generalize (⟨txt.toArray⟩ : ByteArray) = X at *
 clear hc hr hnm hT ht hP hF hs
 go_enter Tryz.func51, Tryz.ntmps51
 go_wp2_with fail
 refine CT.out.mono ?_
 rintro e w1 ⟨v1, rfl, n1, o1⟩
 have CS1 := hide (CS.out v1 w1 o1 n1.sl)
 have O1 := hide o1
 clear o1 n1
 go_wp2_with fail
 refine CS1.out.mono ?_
 rintro e w2 ⟨rfl, o2⟩
 have O2 := hide (Old.trans O1.out o2)
 clear o2
 go_wp2_with fail
 go_ret2
 exact ⟨rfl, O2.out⟩
set_option maxRecDepth 100000 in
theorem reads19_run (s : ByteArray) (j : J) (out : List Cell) (er : Int) (w : World) (hs : s.size ≤ 1073741824) (hE : Errs w) (hT : Tabs w) (hp : parseV s.data.toList = .ok j) (hx : TextsOk j.flat) (hf : NdFit j.flat) (hr : RowOf exC j.flat out er) :
 Calls Tryz.prog 53 #[.string s] w (NewRowE w out er) := by
 have CP := hide (jparse_run s w hs hE hT)
 unfold JParsed at CP
 rw [hp] at CP
 simp only at CP
 have CX := hide (fun w' => example19_run w')
 have CR := hide (fun (cv v : Value) w' (o : Old w w') (hc : ColsIs w' cv exC) (hn : NodesIs w' v j.flat) => row_run cv v exC j.flat out er w' hc hn hx hf exC_names (by decide) (hT.old o) hr)
 clear hp hx hf hr hE hT
 go_enter Tryz.func53, Tryz.ntmps53
 go_wp2_with fail
 refine CP.out.mono ?_
 rintro e w1 ⟨⟨v1, rfl, n1⟩, o1⟩
 have O1 := hide o1
 have N1 := hide (SlT.of_own n1)
 clear o1 n1
 go_wp2_with fail
 refine (CX.out _).mono ?_
 rintro e w2 ⟨v2, rfl, c2, o2⟩
 have O2 := hide (Old.trans O1.out o2)
 have N2 := hide (N1.out.sl.old o2)
 have C2 := hide c2.sl
 clear o2 c2
 go_wp2_with fail
 refine (CR.out v2 v1 _ O2.out C2.out N2.out).mono ?_
 rintro e w3 ⟨v3, rfl, r3, o3⟩
 have O3 := hide (Old.trans O2.out o3)
 have R3 := hide (SlT.mono r3 O2.out.size)
 clear o3 r3
 go_wp2_with fail
 go_ret2
 exact ⟨_, rfl, R3.out, O3.out⟩
set_option maxRecDepth 100000 in
theorem fails19_ok (s : ByteArray) (j : J) (er : Int) (w : World) (hs : s.size ≤ 1073741824) (hE : Errs w) (hT : Tabs w) (hp : parseV s.data.toList = .ok j) (hx : TextsOk j.flat) (hf : NdFit j.flat) (hr : RowOf exC j.flat [] er) :
 Calls Tryz.prog 54 #[.string s, .int .i64 er] w (Ret (.bool true) w) := by
 have CR := hide (reads19_run s j [] er w hs hE hT hp hx hf hr)
 unfold Ret
 clear hp hx hf hr hE hT
 go_enter Tryz.func54, Tryz.ntmps54
 go_wp2_with fail
 refine CR.out.mono ?_
 rintro e w1 ⟨v1, rfl, n1, o1⟩
 obtain ⟨A, c, rfl, _⟩ := n1
 have O1 := hide o1
 clear o1 CR
 go_wp2_with fail
 go_ret
 exact ⟨rfl, O1.out⟩
def oneT (id s b t : ByteArray) : ByteArray := ((((((((⟨#[123, 34, 105, 100, 34, 58]⟩ : ByteArray) ++ id) ++ ⟨#[44, 34, 115, 34, 58]⟩) ++ s) ++ ⟨#[44, 34, 98, 34, 58]⟩) ++ b) ++ ⟨#[44, 34, 116, 34, 58]⟩) ++ t) ++ ⟨#[125]⟩
set_option maxRecDepth 100000 in
theorem one19_run (id s b t : ByteArray) (j : J) (w : World) (h1 : id.size ≤ 100) (h2 : s.size ≤ 100) (h3 : b.size ≤ 100) (h4 : t.size ≤ 100) (hE : Errs w) (hT : Tabs w) (hp : parseV (oneT id s b t).data.toList = .ok j) (hx : TextsOk j.flat) (hf : NdFit j.flat) (hr : RowOf exC j.flat [] 90) :
 Calls Tryz.prog 55 #[.string id, .string s, .string b, .string t] w (Ret (.bool true) w) := by
 have hsz : (oneT id s b t).size ≤ 1073741824 := by
  unfold oneT
  simp only [ByteArray.size_append]
  show 6 + id.size + 5 + s.size + 5 + b.size + 5 + t.size + 1 ≤ _
  omega
 have CF := hide (fails19_ok (oneT id s b t) j 90 w hsz hE hT hp hx hf hr)
 unfold oneT Ret at CF
 unfold Ret
 clear hp hx hf hr hE hT hsz
 go_enter Tryz.func55, Tryz.ntmps55
 go_wp2_with fail
 refine CF.out.mono ?_
 rintro e w1 ⟨rfl, o1⟩
 go_wp2_with fail
 go_ret
 exact ⟨rfl, o1⟩
end Go.Proofs.YthlfljmfggmfdaaGreatDoor

/-! ###  -/
namespace Go.Proofs.YthlfljmfggmfdaaGreatDoor
open Go.RowKit
theorem flat_len {α : Type} {vals : α → List Value} {n : Nat} (hn : ∀ x, (vals x).length = n) (l : List α) : (l.flatMap vals).length = l.length * n := by
 induction l with
 | nil => simp
 | cons c r ih => rw [List.flatMap_cons, List.length_append, ih, hn, List.length_cons, Nat.add_mul, Nat.one_mul, Nat.add_comm]
theorem flat_take {α : Type} {vals : α → List Value} {n : Nat} (hn : ∀ x, (vals x).length = n) : ∀ (l : List α) (m : Nat), (l.take m).flatMap vals = (l.flatMap vals).take (m * n)
 | [], m => by simp
 | c :: l, 0 => by simp
 | c :: l, m + 1 => by
   rw [List.take_succ_cons, List.flatMap_cons, List.flatMap_cons, flat_take hn l m, Nat.add_mul, Nat.one_mul, Nat.add_comm, List.take_append, hn]
   rw [List.take_of_length_le (l := vals c) (by rw [hn]; omega), Nat.add_sub_cancel_left]
theorem slice_take {α : Type} {vals : α → List Value} {n : Nat} (hn : ∀ x, (vals x).length = n) {w : World} {A : Option Addr} {k cap : Nat} {l : List α} (h : Sl w (.slice A k cap) l.length (l.flatMap vals)) {m : Nat} (hm : (l.take m).length = m) : Sl w (.slice A m cap) (l.take m).length ((l.take m).flatMap vals) := by
 have hmt : m ≤ l.length := by rw [← hm]; simp; omega
 obtain ⟨A', cp, he, h1, h2, h3⟩ := h
 injection he with e1 e2 e3
 subst e1 e2 e3
 refine ⟨A, cap, by rw [hm], by omega, h2, fun hne => ?_⟩
 obtain ⟨b, off, hA, hc⟩ := h3 (by
  intro e
  apply hne
  rw [flat_take hn, e, List.take_nil])
 refine ⟨b, off, hA, fun j u hu => hc j u ?_⟩
 rw [flat_take hn, List.getElem?_take] at hu
 split at hu
 · exact hu
 · cases hu
theorem set_elem {α : Type} {vals : α → List Value} {n T : Nat} (hn : ∀ x, (vals x).length = n) {lo m cap : Nat} {w : World} {A : Option Addr} {l1 l2 : List α} {x y : α} (i k : Nat) (v : Value) (h : SlT T lo w (.slice A m cap) (l1 ++ x :: l2).length ((l1 ++ x :: l2).flatMap vals)) (hk : l1.length = k) (hi : i < n) (hy : vals y = (vals x).set i v) :
 ∃ g off, A = some ⟨g, off, none⟩ ∧ lo ≤ g ∧ (∀ j u, (vals x)[j]? = some u → w.cell? ⟨g, off + k * n + j, none⟩ = some u) ∧ (∀ j, w.frozen? ⟨g, j, none⟩ = false) ∧
  SlT T lo (w.setCell ⟨g, off + k * n + i, none⟩ v) (.slice A m cap) (l1 ++ y :: l2).length ((l1 ++ y :: l2).flatMap vals) := by
 subst hk
 obtain ⟨A', cp, he, h1, h2, h3⟩ := h
 injection he with e1 e2 e3
 subst e1 e3
 have hlen : ∀ z, (l1 ++ z :: l2).flatMap vals ≠ [] := fun z e => by
  have := congrArg List.length e
  rw [flat_len hn] at this
  have h2 := Nat.mul_pos (show 0 < (l1 ++ z :: l2).length by simp; omega) (show 0 < n by omega)
  rw [this] at h2
  exact absurd h2 (by simp)
 obtain ⟨g, off, cs, rfl, hlo, hh, hc⟩ := h3 (hlen x)
 have e : (l1 ++ x :: l2).flatMap vals = l1.flatMap vals ++ (vals x ++ l2.flatMap vals) := by simp
 have e' : (l1 ++ y :: l2).flatMap vals = l1.flatMap vals ++ (vals y ++ l2.flatMap vals) := by simp
 have hx5 : (vals x).length = n := hn x
 have hcx : ∀ j u, (vals x)[j]? = some u → cs[off + l1.length * n + j]? = some u := fun j u hu => by
  rw [Nat.add_assoc]
  refine hc _ _ ?_
  rw [e, List.getElem?_append_right (by rw [flat_len hn]; omega), flat_len hn, Nat.add_sub_cancel_left, List.getElem?_append_left (by have := (List.getElem?_eq_some_iff.1 hu).1; omega)]
  exact hu
 have e2' : (l1 ++ y :: l2).flatMap vals = ((l1 ++ x :: l2).flatMap vals).set (l1.length * n + i) v := by
  rw [e, e', hy, List.set_append_right _ _ (by rw [flat_len hn]; omega), flat_len hn, Nat.add_sub_cancel_left, List.set_append_left _ _ (by omega)]
 have hl' : (l1 ++ y :: l2).length = (l1 ++ x :: l2).length := by simp
 refine ⟨g, off, rfl, hlo, fun j u hu => by rw [cell_of_heap hh]; exact hcx j u hu, fun j => free_of_heap hh, ?_⟩
 rw [hl']
 refine ⟨_, cap, by rw [e2], h1, h2, fun _ => ⟨g, off, cs.setIfInBounds (off + l1.length * n + i) v, rfl, hlo, by simp [World.setCell, Array.getElem?_modify, hh], fun j u hu => ?_⟩⟩
 rw [e2', List.getElem?_set] at hu
 by_cases hj : l1.length * n + i = j
 · subst hj
   rw [if_pos rfl] at hu
   split at hu
   · injection hu with hu
     subst hu
     have hlt : off + l1.length * n + i < cs.size := by
      obtain ⟨z, hz⟩ : ∃ z, (vals x)[i]? = some z := ⟨_, List.getElem?_eq_getElem (by omega)⟩
      exact (Array.getElem?_eq_some_iff.1 (hcx i z hz)).1
     rw [← Nat.add_assoc, Array.getElem?_setIfInBounds_self_of_lt hlt]
   · cases hu
 · rw [if_neg hj] at hu
   rw [Array.getElem?_setIfInBounds_ne (by omega)]
   exact hc j u hu
theorem form_of {T lo n m : Nat} {w : World} {v : Value} {xs : List Value} (h : SlT T lo w v n xs) (hm : n = m) : ∃ A cap, v = .slice A m cap ∧ m ≤ cap ∧ cap ≤ maxLen := by
 subst hm
 obtain ⟨A, cap, rfl, h1, h2, _⟩ := h
 exact ⟨A, cap, rfl, h1, h2⟩
def turnTo {α : Type} (f : α → α) (l : List α) (k : Nat) : List α := (l.take k).map f ++ l.drop k
theorem turnTo_zero {α : Type} (f : α → α) (l : List α) : turnTo f l 0 = l := by simp [turnTo]
theorem turnTo_all {α : Type} (f : α → α) (l : List α) {k : Nat} (h : l.length ≤ k) : turnTo f l k = l.map f := by
 unfold turnTo
 rw [List.take_of_length_le h, List.drop_eq_nil_of_le h, List.append_nil]
theorem turnTo_at {α : Type} {f : α → α} {l : List α} {k : Nat} (h : k < l.length) : turnTo f l k = (l.take k).map f ++ l[k] :: l.drop (k + 1) := by
 unfold turnTo
 rw [List.drop_eq_getElem_cons h]
theorem turnTo_next {α : Type} {f : α → α} {l : List α} {k : Nat} (h : k < l.length) : turnTo f l (k + 1) = (l.take k).map f ++ f l[k] :: l.drop (k + 1) := by
 unfold turnTo
 rw [List.take_succ_eq_append_getElem h, List.map_append, List.append_assoc]
 rfl
theorem cut_take {α : Type} (l : List α) {n m : Nat} {L : List α} (hL : l.take n = L) (hm : L.length = m) : l.take m = L := by
 rw [← hm, ← hL, List.length_take]
 rcases Nat.le_total n l.length with h | h
 · rw [Nat.min_eq_left h]
 · rw [Nat.min_eq_right h, List.take_of_length_le h, List.take_length]
theorem colVals_n (c : Col) : (Col.vals c).length = 7 := rfl
theorem cellVals_n (c : Cell) : (Cell.vals c).length = 3 := rfl
theorem ndVals_n (x : Nd) : (Nd.vals x).length = 5 := rfl
theorem colInfo : (Tryz.prog.info? 56).map (fun i => (i.zero, i.size, i.bytes)) = some (some (.agg #[.int .i64 0, .string ⟨#[]⟩, .int .i64 0, .bool false, .bool false, .int .i64 0, .string ⟨#[]⟩]), 7, 72) := by kernel_rfl
theorem step_push_cols {o : Oper} {a : Act} {K : Act → World → Prop} {Q : Exit → Act → World → Prop} (w : World) (s x : Operand)
 (ho : o.op = .call { callee := .builtin .append, args := #[s, x], argTypes := #[22, 22] })
 (base : Nat) (v : Value) (r : List Col) (hs : a.eval s = v) (hown : w.ownsRow base 56 7 v r.length (colVals r))
 (xv : Value) (q : List Col) (hev : a.eval x = xv) (hx : ColsIs w xv q) (hlen : r.length + q.length ≤ 1048576) (hbase : base ≤ w.heap.size)
 (h : ∀ v' w', w'.ownsRow base 56 7 v' (r ++ q).length (colVals (r ++ q)) → Kept 56 base w w' → K (a.put o.dst v') w') : o.wp Tryz.prog a w K Q := by
 obtain ⟨i0, hi, hz0, hz1, hz2⟩ := info_parts colInfo
 refine wp_append_sl w s x 22 ho base 56 i0 _ 7 72 Tryz.underlying22 hi hz0 hz1 hz2 rfl (by omega) v r.length (colVals r) hs hown
  xv q.length (colVals q) hev hx (by rw [colVals_length]) (colVals_cell q) (by unfold maxLen; omega) (by omega) hbase ?_
 intro v' w' own' hg
 refine h v' w' ?_ (Kept.of_grown hown hg hbase)
 rw [colVals_append, List.length_append]
 exact own'
set_option maxRecDepth 100000 in
theorem copyCols (v : Value) (r : List Col) (w : World) (h : ColsIs w v r) (hlen : r.length ≤ 1048576) : Calls Tryz.prog 13 #[v] w (NewColsT w r) := by
 have H := hide h
 obtain ⟨A, cap, rfl, rest⟩ := h
 clear rest
 go_enter Tryz.func13, Tryz.ntmps13
 go_wp2_with (at_builtin; refine wpList_plain rfl (fun K hK => ?_); refine step_push_cols _ _ _ rfl w.heap.size (.slice none 0 0) [] rfl (World.ownsRow_nil _ _ _ _) _ r rfl H.out (by simp; omega) (Nat.le_refl _) ?_; intro v' w' own hk; refine hK _ _ ?_; clear hK)
 go_ret
 exact ⟨_, rfl, SlT.of_own own, hk.low⟩
def cutCol (x : Col) : Col := ⟨x.id, cutN 40 x.name, x.kind, x.null, x.dflt⟩
def cols19L (l : List Col) : List Col := (l.take 34).map cutCol
theorem cols19L_len (l : List Col) : (cols19L l).length ≤ 34 := by simp [cols19L]; omega
set_option maxRecDepth 100000 in
set_option maxHeartbeats 1000000 in
theorem cols19_run (v : Value) (t : List Col) (w : World) (ht : ColsIs w v t) : Calls Tryz.prog 10 #[v] w (NewColsT w (cols19L t)) := by
 have HT := hide ht
 obtain ⟨A, ca, rfl, hla, hma, _⟩ := cols_form ht
 unfold maxLen at hma
 obtain ⟨L, hL⟩ : ∃ L, Hid (t.take 34 = L) := ⟨_, hide rfl⟩
 obtain ⟨m, hm⟩ : ∃ m, Hid (L.length = m) := ⟨_, hide rfl⟩
 have hm60 : m ≤ 34 := by rw [← hm.out, ← hL.out]; simp; omega
 have CC := hide (show Calls Tryz.prog 13 #[.slice A (min (t.length : Int) 34).toNat ca] w (NewColsT w L) by
  have e : (min (t.length : Int) 34).toNat = m := by rw [← hm.out, ← hL.out]; simp; omega
  rw [e]
  have e2 : t.take m = L := cut_take t hL.out hm.out
  have := slice_take colVals_n (m := m) HT.out (by rw [e2]; exact hm.out)
  rw [e2] at this
  exact copyCols _ _ w this (by rw [hm.out]; omega))
 clear ht
 go_enter Tryz.func10, Tryz.ntmps10
 go_wp2_with fail
 refine CC.out.mono ?_
 rintro e w1 ⟨v1, rfl, n1, ow1⟩
 obtain ⟨A1, c1, rfl, q1, q2⟩ := form_of n1 hm.out
 unfold maxLen at q2
 have N1 := hide n1
 have O1 := hide ow1
 clear n1 ow1
 go_wp2_with fail
 go_loopw [3] (fun i wr => ∃ k : Nat, i = .int .i64 k ∧ k ≤ m ∧ Hid (ColsT w.heap.size wr (.slice A1 m c1) (turnTo cutCol L k)) ∧ Hid (Old w wr)) (fun i _ => m - (intOf i).toNat)
 case atStart => exact ⟨0, rfl, by omega, hide (by rw [turnTo_zero]; exact N1.out), O1⟩
 case round =>
  obtain ⟨k, rfl, hk, HN, HO⟩ := hrel
  by_cases hlt : k < m
  · have hkl : k < L.length := by rw [hm.out]; exact hlt
    have hk1 : ((L.take k).map cutCol).length = k := by simp; omega
    have h := HN.out
    rw [turnTo_at hkl] at h
    obtain ⟨x, hx⟩ : ∃ x, Hid (L[k] = x) := ⟨_, hide rfl⟩
    rw [hx.out] at h
    obtain ⟨g, off, rfl, s1, s2, s3, s4⟩ := set_elem colVals_n (y := cutCol x) 1 k (.string (x.name.extract 0 (min (x.name.size : Int) 40).toNat)) h hk1 (by omega) rfl
    have x1 := s2 1 _ rfl
    have f1 := s3 (off + k * 7 + 1)
    have HN2 := hide (SlT.old s4 (Old.drew (Old.refl _)))
    have HO2 := hide (show Old w (wr.setCell ⟨g, off + k * 7 + 1, none⟩ (.string (x.name.extract 0 (min (x.name.size : Int) 40).toNat))).drew from Old.drew (Old.setCell HO.out s1 _))
    clear h s1 s2 s3 s4 hk1
    go_wp2_with fail
    go_region
    generalize (wr.setCell ⟨g, off + k * 7 + 1, none⟩ (.string (x.name.extract 0 (min (x.name.size : Int) 40).toNat))).drew = w2 at HN2 HO2 ⊢
    clear x1 f1
    go_wp2_with fail
    go_roundw
    case rel => exact ⟨k + 1, by go_num, by omega, hide (by rw [turnTo_next hkl, hx.out]; exact HN2.out), HO2⟩
    case measure => simp [intOf]; omega
  · go_wp2_with fail
    go_ret
    exact ⟨_, rfl, by have h := HN.out; rw [turnTo_all cutCol L (by rw [hm.out]; omega), ← hL.out] at h; exact h, HO.out⟩
def cutCell (x : Cell) : Cell := ⟨x.null, x.n, cutN 1100 x.s⟩
def cells19L (l : List Cell) : List Cell := (l.take 40).map cutCell
theorem cells19L_len (l : List Cell) : (cells19L l).length ≤ 40 := by simp [cells19L]; omega
set_option maxRecDepth 100000 in
set_option maxHeartbeats 1000000 in
theorem cells19_run (v : Value) (t : List Cell) (w : World) (ht : RowIs w v t) : Calls Tryz.prog 11 #[v] w (NewRow w (cells19L t)) := by
 have HT := hide ht
 obtain ⟨A, ca, rfl, hla, hma, _⟩ := ht.row
 unfold maxLen at hma
 obtain ⟨L, hL⟩ : ∃ L, Hid (t.take 40 = L) := ⟨_, hide rfl⟩
 obtain ⟨m, hm⟩ : ∃ m, Hid (L.length = m) := ⟨_, hide rfl⟩
 have hm60 : m ≤ 40 := by rw [← hm.out, ← hL.out]; simp; omega
 have CC := hide (show Calls Tryz.prog 14 #[.slice A (min (t.length : Int) 40).toNat ca] w (NewRow w L) by
  have e : (min (t.length : Int) 40).toNat = m := by rw [← hm.out, ← hL.out]; simp; omega
  rw [e]
  have e2 : t.take m = L := cut_take t hL.out hm.out
  have := slice_take cellVals_n (m := m) HT.out (by rw [e2]; exact hm.out)
  rw [e2] at this
  exact copyRow _ _ w this (by rw [hm.out]; omega))
 clear ht
 go_enter Tryz.func11, Tryz.ntmps11
 go_wp2_with fail
 refine CC.out.mono ?_
 rintro e w1 ⟨v1, rfl, n1, ow1⟩
 obtain ⟨A1, c1, rfl, q1, q2⟩ := form_of n1 hm.out
 unfold maxLen at q2
 have N1 := hide n1
 have O1 := hide ow1
 clear n1 ow1
 go_wp2_with fail
 go_loopw [3] (fun i wr => ∃ k : Nat, i = .int .i64 k ∧ k ≤ m ∧ Hid (CellsT w.heap.size wr (.slice A1 m c1) (turnTo cutCell L k)) ∧ Hid (Old w wr)) (fun i _ => m - (intOf i).toNat)
 case atStart => exact ⟨0, rfl, by omega, hide (by rw [turnTo_zero]; exact N1.out), O1⟩
 case round =>
  obtain ⟨k, rfl, hk, HN, HO⟩ := hrel
  by_cases hlt : k < m
  · have hkl : k < L.length := by rw [hm.out]; exact hlt
    have hk1 : ((L.take k).map cutCell).length = k := by simp; omega
    have h := HN.out
    rw [turnTo_at hkl] at h
    obtain ⟨x, hx⟩ : ∃ x, Hid (L[k] = x) := ⟨_, hide rfl⟩
    rw [hx.out] at h
    obtain ⟨g, off, rfl, s1, s2, s3, s4⟩ := set_elem cellVals_n (y := cutCell x) 2 k (.string (x.s.extract 0 (min (x.s.size : Int) 1100).toNat)) h hk1 (by omega) rfl
    have x1 := s2 2 _ rfl
    have f1 := s3 (off + k * 3 + 2)
    have HN2 := hide (SlT.old s4 (Old.drew (Old.refl _)))
    have HO2 := hide (show Old w (wr.setCell ⟨g, off + k * 3 + 2, none⟩ (.string (x.s.extract 0 (min (x.s.size : Int) 1100).toNat))).drew from Old.drew (Old.setCell HO.out s1 _))
    clear h s1 s2 s3 s4 hk1
    go_wp2_with fail
    go_region
    generalize (wr.setCell ⟨g, off + k * 3 + 2, none⟩ (.string (x.s.extract 0 (min (x.s.size : Int) 1100).toNat))).drew = w2 at HN2 HO2 ⊢
    clear x1 f1
    go_wp2_with fail
    go_roundw
    case rel => exact ⟨k + 1, by go_num, by omega, hide (by rw [turnTo_next hkl, hx.out]; exact HN2.out), HO2⟩
    case measure => simp [intOf]; omega
  · go_wp2_with fail
    go_ret
    exact ⟨_, rfl, by have h := HN.out; rw [turnTo_all cutCell L (by rw [hm.out]; omega), ← hL.out] at h; exact h, HO.out⟩
def cutNode (x : Nd) : Nd := ⟨x.kind, cutN 40 x.key, x.n, cutN 2100 x.s, x.size⟩
def cutNode1 (x : Nd) : Nd := ⟨x.kind, cutN 40 x.key, x.n, x.s, x.size⟩
def nodes19L (l : List Nd) : List Nd := (l.take 100).map cutNode
theorem nodes19L_len (l : List Nd) : (nodes19L l).length ≤ 100 := by simp [nodes19L]; omega
set_option maxRecDepth 100000 in
set_option maxHeartbeats 1000000 in
theorem nodes19_run (v : Value) (t : List Nd) (w : World) (ht : NodesIs w v t) : Calls Tryz.prog 12 #[v] w (NewNodes w (nodes19L t)) := by
 have HT := hide ht
 obtain ⟨A, ca, rfl, hla, hma, _⟩ := ht.nodes
 unfold maxLen at hma
 obtain ⟨L, hL⟩ : ∃ L, Hid (t.take 100 = L) := ⟨_, hide rfl⟩
 obtain ⟨m, hm⟩ : ∃ m, Hid (L.length = m) := ⟨_, hide rfl⟩
 have hm60 : m ≤ 100 := by rw [← hm.out, ← hL.out]; simp; omega
 have CC := hide (show Calls Tryz.prog 15 #[.slice A (min (t.length : Int) 100).toNat ca] w (NewNodes w L) by
  have e : (min (t.length : Int) 100).toNat = m := by rw [← hm.out, ← hL.out]; simp; omega
  rw [e]
  have e2 : t.take m = L := cut_take t hL.out hm.out
  have := slice_take ndVals_n (m := m) HT.out (by rw [e2]; exact hm.out)
  rw [e2] at this
  exact ref_Copy _ _ w this (by rw [hm.out]; omega))
 clear ht
 go_enter Tryz.func12, Tryz.ntmps12
 go_wp2_with fail
 refine CC.out.mono ?_
 rintro e w1 ⟨v1, rfl, n1, ow1⟩
 obtain ⟨A1, c1, rfl, q1, q2⟩ := form_of n1 hm.out
 unfold maxLen at q2
 have N1 := hide n1
 have O1 := hide ow1
 clear n1 ow1
 go_wp2_with fail
 go_loopw [3] (fun i wr => ∃ k : Nat, i = .int .i64 k ∧ k ≤ m ∧ Hid (NodesT w.heap.size wr (.slice A1 m c1) (turnTo cutNode L k)) ∧ Hid (Old w wr)) (fun i _ => m - (intOf i).toNat)
 case atStart => exact ⟨0, rfl, by omega, hide (by rw [turnTo_zero]; exact N1.out), O1⟩
 case round =>
  obtain ⟨k, rfl, hk, HN, HO⟩ := hrel
  by_cases hlt : k < m
  · have hkl : k < L.length := by rw [hm.out]; exact hlt
    have hk1 : ((L.take k).map cutNode).length = k := by simp; omega
    have h := HN.out
    rw [turnTo_at hkl] at h
    obtain ⟨x, hx⟩ : ∃ x, Hid (L[k] = x) := ⟨_, hide rfl⟩
    rw [hx.out] at h
    obtain ⟨g, off, rfl, s1, s2, s3, s4⟩ := set_elem ndVals_n (y := cutNode1 x) 1 k (.string (x.key.extract 0 (min (x.key.size : Int) 40).toNat)) h hk1 (by omega) rfl
    have x1 := s2 1 _ rfl
    have f1 := s3 (off + k * 5 + 1)
    have HN2 := hide (SlT.old s4 (Old.drew (Old.refl _)))
    have HO2 := hide (show Old w (wr.setCell ⟨g, off + k * 5 + 1, none⟩ (.string (x.key.extract 0 (min (x.key.size : Int) 40).toNat))).drew from Old.drew (Old.setCell HO.out s1 _))
    clear h s1 s2 s3 s4
    go_wp2_with fail
    go_region
    generalize (wr.setCell ⟨g, off + k * 5 + 1, none⟩ (.string (x.key.extract 0 (min (x.key.size : Int) 40).toNat))).drew = w2 at HN2 HO2 ⊢
    clear x1 f1
    obtain ⟨g', off', he, s1, s2, s3, s4⟩ := set_elem ndVals_n (y := cutNode x) 3 k (.string (x.s.extract 0 (min (x.s.size : Int) 2100).toNat)) HN2.out hk1 (by omega) rfl
    injection he with he
    injection he with e1 e2
    subst e1 e2
    have x1 := s2 3 _ rfl
    have f1 := s3 (off + k * 5 + 3)
    have HN3 := hide (SlT.old s4 (Old.drew (Old.refl _)))
    have HO3 := hide (show Old w (w2.setCell ⟨g, off + k * 5 + 3, none⟩ (.string (x.s.extract 0 (min (x.s.size : Int) 2100).toNat))).drew from Old.drew (Old.setCell HO2.out s1 _))
    simp only [cutNode1] at x1
    clear s1 s2 s3 s4 hk1
    go_wp2_with fail
    go_region
    generalize (w2.setCell ⟨g, off + k * 5 + 3, none⟩ (.string (x.s.extract 0 (min (x.s.size : Int) 2100).toNat))).drew = w3 at HN3 HO3 ⊢
    clear x1 f1
    go_wp2_with fail
    go_roundw
    case rel => exact ⟨k + 1, by go_num, by omega, hide (by rw [turnTo_next hkl, hx.out]; exact HN3.out), HO3⟩
    case measure => simp [intOf]; omega
  · go_wp2_with fail
    go_ret
    exact ⟨_, rfl, by have h := HN.out; rw [turnTo_all cutNode L (by rw [hm.out]; omega), ← hL.out] at h; exact h, HO.out⟩
theorem colGuard : Tryz.prog.eqGuardType Tryz.prog.depth 56 = false := by kernel_rfl
theorem colStood : Tryz.prog.stoodInHeld 56 = false := by kernel_rfl
theorem colFields : Tryz.prog.underlying 56 = some (.struct (Tryz.prog.fieldsOf 56)) := by kernel_rfl
end Go.Proofs.YthlfljmfggmfdaaGreatDoor

/-! ###  -/
namespace Go.Proofs.YthlfljmfggmfdaaGreatDoor
open Go.RowKit Go.ChangeShapes Go.WideShapes Go.Deep
section
variable {H : Type} {enc : TypeId × Value → H} {P : Program} {w : World} {base : Nat} {spare : Nat → Bool} {held : Bool}
theorem add_spot {a : Addr} (h : a.spot = none) (n : Nat) : a.add n = ⟨a.block, a.off + n, none⟩ := by
 unfold Addr.add
 split
 · rename_i h0; subst h0; cases a; simp_all
 · rfl
end
section
variable {H : Type} {enc : TypeId × Value → H} {w : World} {base : Nat} {spare : Nat → Bool} {held : Bool}
instance : Inhabited Nd := ⟨⟨0, ⟨#[]⟩, 0, ⟨#[]⟩, 0⟩⟩
end
section
variable {H : Type} {enc : TypeId × Value → H} {P : Program}
theorem post_of_below {f : Func} {s : ChangeSpec} {apart fresh handsOn again : Bool} {W W' : World} {args : Array Value} {v : Value} {ds gs : List (DataW H)} {before pa pv : List MemPlace}
 (hW : DataW.Whole enc P f.params.toList s.vars apart W args.toList ds gs before)
 (hres : ∀ (b : Nat) (sp : Nat → Bool) (hd : Bool), DataW.TrodAll enc P W' b sp hd f.resultTypes.toList (v.resultList f.resultTypes.size) (s.fn H (ds ++ gs)).results [])
 (hargs : ∀ sp : Nat → Bool, (∀ p ∈ before, sp p.block = true) → DataW.TrodAll enc P W' 0 sp true f.params.toList args.toList (s.fn H (ds ++ gs)).args pa)
 (hvars : ∀ sp : Nat → Bool, (∀ p ∈ before, sp p.block = true) → DataW.TrodVars enc P W' sp s.vars (s.fn H (ds ++ gs)).vars pv)
 (hps : before = pa ++ pv) (hb : Below W.heap.size W W')
 (hok : ∀ (j : Nat) (t : TypeId) (r : Value), f.resultTypes[j]? = some t → (v.resultList f.resultTypes.size)[j]? = some r → Value.okWide P W' .any 0 t r) :
 s.post enc P f apart fresh handsOn again W args v W' := by
 have hlt : ∀ p ∈ before, p.block < W.heap.size := fun p hp => hW.lt p hp
 have hold : ∀ p ∈ before, (fun b => decide (b < W.heap.size)) p.block = true := fun p hp => by simpa using hlt p hp
 refine ⟨ds, gs, before, [], pa, pv, hW, hres _ _ _, hargs _ hold, hvars _ hold, World.keptBut_mono (fun p hp => ⟨hp, ?_⟩) (hb.frame (· ∈ before)), fun _ => ?_⟩
 · rw [hps, List.mem_append] at hp
   exact Or.inr hp
 · obtain ⟨_, _, _, _, _, hz, hn⟩ := hW
   refine ⟨hok, _, _, ([] ++ pa) ++ pv, ⟨[] ++ pa, pv, trodAll_append (hargs _ (fun _ _ => rfl)) (hres _ _ _), hvars _ (fun _ _ => rfl), rfl, ?_, ?_⟩, ?_⟩
   · intro b off hp
     have hin : MemPlace.cell b off ∈ before := by rw [hps]; simpa using hp
     rw [hb.frozen (hlt _ hin)]
     exact hz b off hin
   · intro ha
     have := hn ha
     rw [hps] at this
     simpa using this
   · intro p hp _
     rw [hps]
     simpa using hp
end
theorem u8extra : U8Extra Tryz.prog Tryz.lays196_ren := ⟨by kernel_rfl, by kernel_rfl, by kernel_rfl, by kernel_rfl, by kernel_rfl, by kernel_rfl, by kernel_rfl⟩
theorem accept_eq : Rows.laid_unicode_utf8_acceptRanges = Lib.acceptData := by kernel_rfl
end Go.Proofs.YthlfljmfggmfdaaGreatDoor
namespace Go.Proofs.YthlfljmfggmfdaaGreatDoor
open Go.RowKit Go.ChangeShapes Go.WideShapes Go.Deep
section
variable {H : Type} {enc : TypeId × Value → H} {P : Program} {w : World} {base : Nat} {spare : Nat → Bool} {held : Bool}
end
section
variable {H : Type} {enc : TypeId × Value → H} {w : World} {base : Nat} {spare : Nat → Bool} {held : Bool}
end
end Go.Proofs.YthlfljmfggmfdaaGreatDoor
namespace Go.Proofs.YthlfljmfggmfdaaGreatDoor
open Go.RowKit Go.ChangeShapes Go.WideShapes Go.Deep
def laidSeven : List (String × DataW Unit) := [("math/bits.deBruijn32tab", Rows.laid_math_bits_deBruijn32tab), ("math/bits.deBruijn64tab", Rows.laid_math_bits_deBruijn64tab), ("internal/strconv.uint64pow10", Rows.laid_internal_strconv_uint64pow10), ("unicode/utf8.acceptRanges", Rows.laid_unicode_utf8_acceptRanges), ("strconv.ErrRange", Rows.laid_strconv_ErrRange), ("strconv.ErrSyntax", Rows.laid_strconv_ErrSyntax), ("unicode/utf8.first", Rows.laid_unicode_utf8_first)]
theorem errStar : "*" ++ "errors.errorString" = "*errors.errorString" := by decide
theorem errRow (u : TypeId) (h : Tryz.prog.typeName? 3 u = some "*errors.errorString") : u = 266 :=
 typeName_ptr_named (nm := "errors.errorString") (by rw [errStar]; kernel_rfl) (by kernel_rfl) (by decide) u (by rw [errStar]; exact h)
theorem seven_laid {W : World} (h : laidMetH Tryz.prog laidSeven W) : Tabs W ∧ Errs W := by
 rw [Go.MakeChecks.laidMetH_plain _ _ _ (by kernel_rfl)] at h
 have h4 := Lib.laidMet.reads h (.tail _ (.tail _ (.tail _ (.head _))))
 have h3 := Lib.laidMet.reads h (.tail _ (.tail _ (.tail _ (.tail _ (.tail _ (.tail _ (.head _)))))))
 rw [accept_eq] at h4
 rw [show Rows.laid_unicode_utf8_first = Lib.firstData from Pinned.utf8First_eq] at h3
 have t4 : laidMet Tryz.prog [("strconv.ErrRange", Rows.laid_strconv_ErrRange), ("strconv.ErrSyntax", Rows.laid_strconv_ErrSyntax), ("unicode/utf8.first", Rows.laid_unicode_utf8_first)] W := laidMet.tail (laidMet.tail (laidMet.tail (laidMet.tail h)))
 obtain ⟨a1, s1, e1, _⟩ := laid_sentinel t4 (g := 4) (ti := 130) (tp := 266) (te := 268) (ts := 9) (by kernel_rfl) (by kernel_rfl) Tryz.underlying130 errRow Tryz.underlying266 Tryz.underlying268 rfl rfl Tryz.underlying9 (by kernel_rfl) (by kernel_rfl)
 obtain ⟨a2, s2, e2, _⟩ := laid_sentinel (laidMet.tail t4) (g := 3) (ti := 130) (tp := 266) (te := 268) (ts := 9) (by kernel_rfl) (by kernel_rfl) Tryz.underlying130 errRow Tryz.underlying266 Tryz.underlying268 rfl rfl Tryz.underlying9 (by kernel_rfl) (by kernel_rfl)
 exact ⟨utf8Tabs_of_readsT (U8Types.of196 Tryz.lays196) u8extra h3 h4, ⟨_, _, e2⟩, _, _, e1⟩
def litCells : List (DataW Unit) → List Value
 | [] => []
 | .lit (.int k z) :: l => .int k z :: litCells l
 | _ :: l => litCells l
def aggCells : DataW Unit → List Value
 | .agg l => litCells l
 | _ => []
abbrev rangeS : ByteArray := ⟨#[118, 97, 108, 117, 101, 32, 111, 117, 116, 32, 111, 102, 32, 114, 97, 110, 103, 101]⟩
abbrev syntaxS : ByteArray := ⟨#[105, 110, 118, 97, 108, 105, 100, 32, 115, 121, 110, 116, 97, 120]⟩
theorem seven_met (os : Os) (args : Array Value) : laidMetH Tryz.prog laidSeven (({ World.holding Tryz.prog os ⟨#[.cells #[.string rangeS] 268, .cells #[.string syntaxS] 268], #[], []⟩ with
 heap := (((((((World.holding Tryz.prog os ⟨#[.cells #[.string rangeS] 268, .cells #[.string syntaxS] 268], #[], []⟩).heap.setIfInBounds 0 (.cells (Lib.firstTab.map fun z => Value.int .u8 z).toArray (Tryz.lays196_ren.t 119))).setIfInBounds 1
  (.cells ((List.range 16).flatMap fun i => [Value.int .u8 (Lib.accLo i), Value.int .u8 (Lib.accHi i)]).toArray (Tryz.lays196_ren.t 139))).setIfInBounds 2 (.cells (aggCells Rows.laid_internal_strconv_uint64pow10).toArray 242)).setIfInBounds 5 (.cells (aggCells Rows.laid_math_bits_deBruijn32tab).toArray 264)).setIfInBounds 6 (.cells (aggCells Rows.laid_math_bits_deBruijn64tab).toArray 265)).setIfInBounds 4 (.cells #[.iface 266 (.pointer (some ⟨(World.holding Tryz.prog os ⟨#[], #[], []⟩).heap.size, 0, none⟩))] 130)).setIfInBounds 3 (.cells #[.iface 266 (.pointer (some ⟨(World.holding Tryz.prog os ⟨#[], #[], []⟩).heap.size + 1, 0, none⟩))] 130) } : World).forCall (fun _ _ => 0) ⟨#[], args, []⟩).memory := by
 rw [Go.MakeChecks.laidMetH_plain _ _ _ (by kernel_rfl)]
 exact (LaidIn.of_run [0, 1, 2, 5, 6, 4, 3, (World.holding Tryz.prog os ⟨#[], #[], []⟩).heap.size, (World.holding Tryz.prog os ⟨#[], #[], []⟩).heap.size + 1] 8 (by kernel_rfl) (by kernel_rfl) (by kernel_rfl) (by kernel_rfl)).met
end Go.Proofs.YthlfljmfggmfdaaGreatDoor
