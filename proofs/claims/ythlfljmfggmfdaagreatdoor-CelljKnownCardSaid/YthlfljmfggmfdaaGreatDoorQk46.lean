/-  -/
import Derived.Test.YthlfljmfggmfdaaGreatDoorQk45
import Derived.Test.YthlfljmfggmfdaaGreatDoorQk43
import Derived.Test.YthlfljmfggmfdaaGreatDoorQk44
import Derived.Deep.DeepCutAuto
import Derived.Laws.BytesArg
import Derived.Laws.IdiomStrings
import Derived.Test.YthlfljmfggmfdaaGreatDoorQk41
import Derived.Test.YthlfljmfggmfdaaGreatDoorQk39
/-! ###  -/
namespace Go.Proofs.YthlfljmfggmfdaaGreatDoor
open Go.RowKit
def valsK : List ByteArray := [⟨#[110, 117, 108, 108]⟩, ⟨#[102, 97, 108, 115, 101]⟩, ⟨#[116, 114, 117, 101]⟩, ⟨#[48]⟩, ⟨#[49]⟩, ⟨#[45, 49]⟩, ⟨#[50, 49, 52, 55, 52, 56, 51, 54, 52, 55]⟩, ⟨#[50, 49, 52, 55, 52, 56, 51, 54, 52, 56]⟩, ⟨#[45, 50, 49, 52, 55, 52, 56, 51, 54, 52, 56]⟩, ⟨#[45, 50, 49, 52, 55, 52, 56, 51, 54, 52, 57]⟩,
 ⟨#[57, 50, 50, 51, 51, 55, 50, 48, 51, 54, 56, 53, 52, 55, 55, 53, 56, 48, 55]⟩, ⟨#[34, 34]⟩, ⟨#[34, 97, 34]⟩, ⟨#[34, 97, 97, 34]⟩, ⟨#[34, 48, 65, 34]⟩, ⟨#[34, 48, 103, 34]⟩, ⟨#[34, 48, 48, 34]⟩, ⟨#[34, 92, 117, 48, 48, 48, 48, 34]⟩, ⟨#[91, 93]⟩, ⟨#[123, 125]⟩, ⟨#[123, 34, 118, 34, 58, 49, 125]⟩]
def textK (v : ByteArray) : ByteArray := ⟨#[123, 34, 118, 34, 58]⟩ ++ v ++ ⟨#[125]⟩
theorem data_app (a b : ByteArray) : (a ++ b).data.toList = a.data.toList ++ b.data.toList := by simp
theorem textK_list (v : ByteArray) : (textK v).data.toList = [123, 34, 118, 34, 58] ++ v.data.toList ++ [125] := by
 unfold textK
 rw [data_app, data_app]
def okK (l : List UInt8) : Bool := match parseV l with
 | .ok j => j.flat.all fun x => decide (-9223372036854775808 ≤ x.n) && decide (x.n ≤ 9223372036854775807)
 | .error _ => false
theorem okK_is {l : List UInt8} (h : okK l = true) : ∃ j, parseV l = .ok j ∧ NumsOk j.flat := by
 unfold okK at h
 cases hp : parseV l with
 | error x => rw [hp] at h; cases h
 | ok j =>
   rw [hp] at h
   refine ⟨j, rfl, fun x hx => ?_⟩
   have := List.all_eq_true.1 h x hx
   simpa using this
set_option maxRecDepth 100000 in
theorem valsK_ok : (valsK.all fun v => okK ([123, 34, 118, 34, 58] ++ v.data.toList ++ [125]) && decide (v.size ≤ 32)) = true := by decide +kernel
theorem valK_ok {v : ByteArray} (h : v ∈ valsK) : (∃ j, parseV (textK v).data.toList = .ok j ∧ NumsOk j.flat) ∧ v.size ≤ 32 := by
 have := List.all_eq_true.1 valsK_ok v h
 simp only [Bool.and_eq_true, decide_eq_true_eq] at this
 rw [textK_list]
 exact ⟨okK_is this.1, this.2⟩
def oneO (k : ByteArray) (h : Hd) : J := .mk ⟨7, none_, 0, none_⟩ [.mk ⟨h.kind, k, h.n, h.s⟩ []]
theorem one_obj {k : ByteArray} {h : Hd} (hk : vU k = true) (hl : leafOk vU h) : ObjT [k] [leafT h.kind h.n h.s] (oneO k h).flat 0 := by
 refine .inr ⟨rfl, .inr ⟨fun i hi => ?_, [leafJC h], ⟨rfl, fun i hi hi' => ?_⟩, .inr (.inr ⟨?_, ?_, rfl, rfl⟩)⟩⟩
 · obtain rfl : i = 0 := by simpa using hi
   rw [objErr_chk (ks := [k]) (pl := [leafT h.kind h.n h.s]) (i := 0) Nat.zero_lt_one Nat.zero_lt_one hk rfl]
   exact chkT_may (leaf_may hl)
 · obtain rfl : i = 0 := by simpa using hi
   exact leaf_may hl
 · show 1 + (J.flats [J.mk ⟨h.kind, k, h.n, h.s⟩ []]).length ≤ 4000
   simp [J.flats, J.flat]
 · show J.deeps [J.mk ⟨h.kind, k, h.n, h.s⟩ []] < 64
   simp [J.deeps, J.deep]
theorem one_nums {k : ByteArray} {h : Hd} (hn : -9223372036854775808 ≤ h.n ∧ h.n ≤ 9223372036854775807) : NumsOk (oneO k h).flat := by
 intro x hx
 simp [oneO, J.flat, J.flats] at hx
 rcases hx with rfl | rfl
 · exact ⟨by show (-9223372036854775808 : Int) ≤ 0; omega, by show (0 : Int) ≤ 9223372036854775807; omega⟩
 · exact hn
def manyA (n : Nat) : ByteArray := ⟨(List.replicate n 97).toArray⟩
theorem manyA_size (n : Nat) : (manyA n).size = n := by simp [manyA, ByteArray.size]
theorem manyA_vU (n : Nat) : vU (manyA n) = true := by
 show Lib.validD (manyA n).data.toList = true
 have e : (manyA n).data.toList = List.replicate n (97 : UInt8) := by simp [manyA]
 rw [e, Lib.validD_ascii (List.replicate n (97 : UInt8)).length _ (fun b hb => by
  rw [List.take_length] at hb
  have := (List.mem_replicate.1 hb).2
  subst this
  decide), List.drop_length]
 rfl
theorem manyA_two (n : Nat) : manyA n ++ manyA n = manyA (n + n) := by
 apply bytesD_ext
 rw [data_app]
 simp [manyA, List.replicate_append_replicate]
end Go.Proofs.YthlfljmfggmfdaaGreatDoor

/-! ###  -/
namespace Go.Proofs.YthlfljmfggmfdaaGreatDoor
open Go.RowKit
theorem parse_okC (X : ByteArray) (j : J) (w : World) (hX : X.size ≤ 1073741824) (hp : parseV X.data.toList = .ok j) (hE : Errs w) (hT : Tabs w) :
 Calls Tryz.prog 26 #[.string X] w fun e w' => (∃ v, e = .returned (.tuple #[v, .int .i64 0, .int .i64 0]) ∧ NodesT w.heap.size w' v j.flat) ∧ Old w w' :=
 (jparse_run X w hX hE hT).mono fun e w' h => ⟨by
   have h1 := h.1
   unfold JParsed at h1
   rw [hp] at h1
   obtain ⟨v, h2, h3⟩ := h1
   exact ⟨v, h2, SlT.of_own h3⟩, h.2⟩
structure MadeOk (cols : List Col) (r : List Cell) (t : List Nd) (X : ByteArray) : Prop where
 tape : RowT cols r t 0
 row : RowOf cols t r 0
 fine : Fine 5 t
 says : ∃ j : J, May t j ∧ ShowT t j.show 0 ∧ X = ⟨j.show.toArray⟩ ∧ parseV X.data.toList = .ok j ∧ t = j.flat
 size : X.size ≤ 1000000
 names : ∀ c ∈ cols, c.name.size ≤ maxLen
 few : cols.length ≤ 20
end Go.Proofs.YthlfljmfggmfdaaGreatDoor

/-! ###  -/
namespace Go.Proofs.YthlfljmfggmfdaaGreatDoor
open Go.RowKit
def TextRow (g n : Nat) (l : List ByteArray) (w : World) : Prop := ∀ i, i < n → ∃ t : ByteArray, t ∈ l ∧ w.cell? ⟨g, i, none⟩ = some (.string t)
theorem TextRow.old {g n : Nat} {l : List ByteArray} {w w' : World} (h : TextRow g n l w) (o : Old w w') : TextRow g n l w' := fun i hi => by
 obtain ⟨t, a, b⟩ := h i hi
 exact ⟨t, a, o.cell b⟩
theorem text_row (w : World) (l : List ByteArray) (cs : Array Value) (T : TypeId) (n : Nat) (h : cs.toList = l.map Value.string) (hn : l.length = n) : TextRow w.heap.size n l (w.alloc (.cells cs T)) := by
 subst hn
 intro i hi
 refine ⟨l[i], List.getElem_mem hi, ?_⟩
 rw [cell_of_heap (heap_alloc_new w _)]
 have : cs[i]? = cs.toList[i]? := by simp
 rw [this, h, List.getElem?_map, List.getElem?_eq_getElem hi]
 rfl
def colK (s : ByteArray) (k : Int) (b : Bool) : Col := ⟨0, s, k, b, ⟨false, 0, ⟨#[]⟩⟩⟩
def nm6 : List ByteArray := [⟨#[]⟩, ⟨#[65]⟩, ⟨#[97, 32, 98]⟩, ⟨#[49]⟩, ⟨#[118]⟩, ⟨#[97, 98, 99, 100, 101, 102, 103, 104, 105, 106, 107, 108, 109, 110, 111, 112, 113, 114, 115, 116, 117, 118, 119, 120, 121, 122, 97, 98, 99, 100, 101, 102, 103]⟩]
theorem wf_one (b : Bool) (n : Int) (s : ByteArray) (h1 : -9223372036854775808 ≤ n) (h2 : n ≤ 9223372036854775807) : ∀ c ∈ [(⟨b, n, s⟩ : Cell)], Wf c := by
 intro c hc
 simp at hc
 subst hc
 exact ⟨h1, h2⟩
theorem col_lit (w : World) (s : ByteArray) (k : Int) (b : Bool) : ColsIs (w.alloc (.cells #[.int .i64 0, .string s, .int .i64 k, .bool b, .bool false, .int .i64 0, .string ⟨#[]⟩] 56)) (.slice (some ⟨w.heap.size, 0, none⟩) 1 1) [colK s k b] :=
 (cols_lit w [colK s k b] _ rfl 1 rfl (by omega) _ (Nat.le_refl _)).sl
theorem cell_lit (w : World) (b : Bool) (n : Int) (s : ByteArray) : RowIs (w.alloc (.cells #[.bool b, .int .i64 n, .string s] 38)) (.slice (some ⟨w.heap.size, 0, none⟩) 1 1) [⟨b, n, s⟩] :=
 (cells_lit w [⟨b, n, s⟩] _ rfl 1 rfl (by omega) _ (Nat.le_refl _)).sl
theorem col_lit2 (w : World) (X : Obj) (b : Bool) (n : Int) (s : ByteArray) : RowIs ((w.alloc X).alloc (.cells #[.bool b, .int .i64 n, .string s] 38)) (.slice (some ⟨w.heap.size + 1, 0, none⟩) 1 1) [⟨b, n, s⟩] := by
 have h9 := cell_lit (w.alloc X) b n s
 rwa [World.size_alloc] at h9
theorem made_bytes (n : Nat) : (madeCells (Value.int .u8 0).cells (n * 1)).toList = Lib.byteCells (List.replicate n 0) := by
 refine List.ext_getElem (by simp [madeCells, Lib.byteCells]) fun i h1 h2 => ?_
 simp [madeCells, Lib.byteCells, Value.cells, Nat.mod_one]
def fullL (n i : Nat) : List UInt8 := List.replicate i 97 ++ List.replicate (n - i) 0
theorem full_at {n i : Nat} (h : i < n) : (Lib.byteCells (fullL n i))[i]? = some (.int .u8 0) := by
 unfold fullL Lib.byteCells
 rw [List.getElem?_map, List.getElem?_append_right (by simp), List.getElem?_replicate, if_pos (by simp; omega)]
 rfl
theorem full_set {n i : Nat} (h : i < n) : (Lib.byteCells (fullL n i)).set i (.int .u8 97) = Lib.byteCells (fullL n (i + 1)) := by
 have e : (Value.int .u8 97) = (fun b : UInt8 => Value.int .u8 (b.toNat : Int)) 97 := rfl
 unfold fullL Lib.byteCells
 rw [e, ← List.map_set, List.set_append_right _ _ (by simp), List.length_replicate, Nat.sub_self, show n - i = (n - (i + 1)) + 1 by omega, List.replicate_succ, List.set_cons_zero, List.replicate_succ' (n := i), List.append_assoc]
 rfl
theorem full_end {n j : Nat} (h : j < n) : (Lib.byteCells (fullL n n))[j]? = some (.int .u8 97) := by
 unfold fullL Lib.byteCells
 rw [List.getElem?_map, List.getElem?_append_left (by simpa using h), List.getElem?_replicate, if_pos h]
 rfl
theorem conv_full {w : World} {g i n : Nat} (h : ∀ j, j < i + n → w.cell? ⟨g, j, none⟩ = some (.int .u8 97)) : (convert 57 9 (.slice (some ⟨g, i, none⟩) n n)).run Tryz.prog w = .ok (.string (manyA n)) w := by
 have h9 := run_convert_bytes_back (P := Tryz.prog) w 57 9 5 ⟨g, i, none⟩ n (List.replicate n 97) Tryz.underlying57 Tryz.underlying5 Tryz.underlying9 (fun j hj => by
  rw [List.length_replicate] at hj
  rw [show ((⟨g, i, none⟩ : Addr).add j) = ⟨g, i + j, none⟩ from add_spot rfl j, h _ (by omega), List.getElem_replicate]
  rfl)
 rw [List.length_replicate] at h9
 exact h9
theorem x_texts {X : ByteArray} (h : X.size ≤ 4000) : ∀ p ∈ [leafT 5 0 X], TextsOk p := by
 intro p hp
 simp only [List.mem_singleton] at hp
 subst hp
 intro y hy
 simp only [leafT, List.mem_singleton] at hy
 subst hy
 exact ⟨by show (0 : Nat) ≤ _; omega, by show X.size ≤ _; unfold maxLen; omega⟩
theorem one_p {w : World} {v : Value} {t : List Nd} (h : NodesIs w v t) : ∀ p ∈ [(v, t)], NodesIs w p.1 p.2 := by
 intro p hp
 simp at hp
 subst hp
 exact h
theorem key_v : ∀ s ∈ [(⟨#[118]⟩ : ByteArray)], s.size ≤ maxLen := by
 intro s hs
 simp only [List.mem_singleton] at hs
 subst hs
 unfold maxLen
 decide
theorem strK_run (X : ByteArray) (h : vU X = true) (hs : X.size ≤ 4000) (w : World) (hT : Tabs w) : Calls Tryz.prog 28 #[.string X] w (NewNodes w (leafT 5 0 X)) := by
 have h9 := str_run X w (by omega) hT
 have e : strT X = leafT 5 0 X := by unfold strT; rw [if_pos h]
 rwa [e] at h9
theorem obj_v {X : ByteArray} (h : vU X = true) : ObjT [⟨#[118]⟩] [leafT 5 0 X] (oneO ⟨#[118]⟩ ⟨5, none_, 0, X⟩).flat 0 := one_obj (h := ⟨5, none_, 0, X⟩) (by kernel_rfl) (.inr (.inr ⟨rfl, rfl, h⟩))
set_option maxRecDepth 100000 in
set_option maxHeartbeats 4000000 in
theorem known_run (W : World) (hE : Errs W) (hT : Tabs W) (hP : PowTab W) :
 Calls Tryz.prog 5 #[] W fun e w' => e = .returned (.bool true) ∧ Old W w' := by
 have HT := hide hT
 have HE := hide hE
 have CW := hide (fun (w' : World) (o : Old W w') => works19_run w' (hE.old o) (hT.old o) (hP.old o))
 have CMP := hide (fun (cv rv tv : Value) (cols : List Col) (r : List Cell) (t : List Nd) (w' : World) (o : Old W w') (hc : ColsIs w' cv cols) (hr : RowIs w' rv r) (ht : NodesIs w' tv t) (hw : ∀ c ∈ r, Wf c) (hn : NumsOk t) => maps_run cv rv tv cols r t w' hc hr ht hw hn (hE.old o) (hT.old o) (hP.old o) (fun w1 a b c => works19_run w1 a b c))
 have CPK := hide (fun (v : ByteArray) (hv : v ∈ valsK) => show ∃ j : J, NumsOk j.flat ∧ ∀ w', Old W w' → Calls Tryz.prog 26 #[.string (textK v)] w' (fun e w2 => (∃ v', e = .returned (.tuple #[v', .int .i64 0, .int .i64 0]) ∧ NodesT w'.heap.size w2 v' j.flat) ∧ Old w' w2) from by
  obtain ⟨⟨j, h1, h2⟩, h3⟩ := valK_ok hv
  refine ⟨j, h2, fun w' o => parse_okC (textK v) j w' ?_ h1 (hE.old o) (hT.old o)⟩
  rw [show (textK v).size = (textK v).data.toList.length from Array.length_toList.symm, textK_list]
  rw [show v.size = v.data.toList.length from Array.length_toList.symm] at h3
  simp only [List.length_append, List.length_cons, List.length_nil]
  omega)
 unfold Ret at CMP CW
 clear hE hT hP
 go_enter Tryz.func5, Tryz.ntmps5
 go_wp2_with fail
 go_loopw [2] (fun kv wr => ∃ k : Int, kv = .int .i64 k ∧ -1 ≤ k ∧ k ≤ 7 ∧ Hid (TextRow W.heap.size 21 valsK wr) ∧ Hid (Old W wr)) (fun kv _ => (7 - intOf kv).toNat)
 case atStart => exact ⟨-1, rfl, by omega, by omega, hide (text_row W valsK _ 9 21 rfl rfl), hide (Old.alloc (Old.refl _) _)⟩
 case round =>
  obtain ⟨k, rfl, hk1, hk7, HR, HO⟩ := hrel
  by_cases hlt : k < 7
  · obtain ⟨w0, hw0⟩ : ∃ x, x = wr := ⟨_, rfl⟩
    subst hw0
    go_wp2_with fail
    go_loopw [3] (fun iv wr => ∃ i : Nat, iv = .int .i64 i ∧ i ≤ 21 ∧ Hid (TextRow W.heap.size 21 valsK wr) ∧ Hid (Old W wr)) (fun iv _ => 21 - (intOf iv).toNat)
    case atStart => exact ⟨0, rfl, by omega, HR, HO⟩
    case round =>
     obtain ⟨i, rfl, hi, HR2, HO2⟩ := hrel
     by_cases hli : i < 21
     · obtain ⟨v, hv, x1⟩ := HR2.out i hli
       have hlii : (i : Int) < 21 := by omega
       obtain ⟨j, hj, hp⟩ := CPK.out v hv
       have hvs := (valK_ok hv).2
       have CP := hide (hp wr HO2.out)
       have HJ := hide hj
       unfold textK at CP
       clear hp hj hv
       go_wp2_with fail
       refine CP.out.mono ?_
       rintro e w1 ⟨⟨tv, rfl, t1⟩, o1⟩
       have O1 := hide (Old.trans HO2.out o1)
       have R1 := hide (HR2.out.old o1)
       have T1 := hide t1.sl
       have y1 := Old.cell o1 x1
       obtain ⟨TA, Tc, rfl, _⟩ := t1
       clear o1 CP x1
       generalize j.flat = t at *
       obtain ⟨tn, htn⟩ : ∃ tn, Hid (t.length = tn) := ⟨_, hide rfl⟩
       have T1 := hide (show NodesIs w1 (.slice TA tn Tc) t by rw [← htn.out]; exact T1.out)
       rw [htn.out]
       go_upto_region 11 with fail
       obtain ⟨X, hX⟩ : ∃ X : Obj, X = .cells #[.int .i64 0, .string ⟨#[118]⟩, .int .i64 k, .bool false, .bool false, .int .i64 0, .string ⟨#[]⟩] 56 := ⟨_, rfl⟩
       obtain ⟨Y, hY⟩ : ∃ Y : Obj, Y = .cells #[.int .i64 0, .string ⟨#[118]⟩, .int .i64 k, .bool true, .bool false, .int .i64 0, .string ⟨#[]⟩] 56 := ⟨_, rfl⟩
       have C1 := hide (show ColsIs ((w1.alloc X).alloc Y) (.slice (some ⟨w1.heap.size, 0, none⟩) 1 1) [colK ⟨#[118]⟩ k false] by rw [hX]; exact Sl.old (col_lit w1 ⟨#[118]⟩ k false) (Old.alloc (Old.refl _) _))
       have C2 := hide (show ColsIs ((w1.alloc X).alloc Y) (.slice (some ⟨w1.heap.size + 1, 0, none⟩) 1 1) [colK ⟨#[118]⟩ k true] by
        have h9 := col_lit (w1.alloc X) ⟨#[118]⟩ k true
        rw [World.size_alloc] at h9
        rw [hY]
        exact h9)
       rw [← hX, ← hY]
       clear hX hY
       have OA : Old w1 ((w1.alloc X).alloc Y) := Old.alloc (Old.alloc (Old.refl _) _) _
       have O3 := hide (Old.trans O1.out OA)
       have T3 := hide (Sl.old T1.out OA)
       have y3 := Old.cell OA y1
       have R3 := hide (R1.out.old OA)
       generalize (w1.alloc X).alloc Y = w3 at *
       clear OA y1
       have b1 : -9223372036854775808 ≤ (i : Int) := by omega
       have b2 : (i : Int) ≤ 9223372036854775807 := by omega
       go_wp2_with fail
       refine (CMP.out _ _ _ _ _ t _ (Old.alloc O3.out _) (Sl.old C1.out (Old.alloc (Old.refl _) _)) (cell_lit w3 false (i : Int) ⟨#[]⟩) (Sl.old T3.out (Old.alloc (Old.refl _) _)) (wf_one _ _ _ b1 b2) HJ.out).mono ?_
       rintro e w4 ⟨rfl, o4⟩
       have OO4 := hide (Old.trans (Old.alloc (Old.refl w3) _) o4)
       have O4 := hide (Old.trans O3.out OO4.out)
       clear o4
       go_wp2_with fail
       refine (CMP.out _ _ _ _ _ t _ (Old.alloc O4.out _) (Sl.old C2.out (Old.alloc OO4.out _)) (cell_lit w4 true 0 ⟨#[]⟩) (Sl.old T3.out (Old.alloc OO4.out _)) (wf_one _ _ _ (by omega) (by omega)) HJ.out).mono ?_
       rintro e w5 ⟨rfl, o5⟩
       have OO5 := hide (Old.trans OO4.out (Old.trans (Old.alloc (Old.refl w4) _) o5))
       have O5 := hide (Old.trans O3.out OO5.out)
       have y5 := Old.cell OO5.out y3
       clear o5 y3
       go_wp2_with fail
       refine (CMP.out _ _ _ _ _ t _ (Old.alloc O5.out _) (Sl.old C2.out (Old.alloc OO5.out _)) (cell_lit w5 false 0 v) (Sl.old T3.out (Old.alloc OO5.out _)) (wf_one _ _ _ (by omega) (by omega)) HJ.out).mono ?_
       rintro e w6 ⟨rfl, o6⟩
       have OO6 := hide (Old.trans OO5.out (Old.trans (Old.alloc (Old.refl w5) _) o6))
       have O6 := hide (Old.trans O3.out OO6.out)
       have R6 := hide (R3.out.old OO6.out)
       clear o6 y5
       go_wp2_with fail
       go_roundw
       case rel => exact ⟨i + 1, by go_num, by omega, R6, O6⟩
       case measure => simp [intOf]; omega
     · have hlii : ¬ (i : Int) < 21 := by omega
       go_wp2_with fail
       go_roundw
       case rel => exact ⟨k + 1, by go_num, by omega, by omega, HR2, HO2⟩
       case measure => simp [intOf]; omega
  · obtain ⟨w0, hw0⟩ : ∃ x, x = wr := ⟨_, rfl⟩
    subst hw0
    clear HR
    obtain ⟨⟨j, hj1, hj2⟩, hj3⟩ : (∃ j : J, parseV (⟨#[123, 34, 118, 34, 58, 49, 125]⟩ : ByteArray).data.toList = .ok j ∧ NumsOk j.flat) ∧ True := ⟨okK_is (by decide +kernel), True.intro⟩
    have HJ := hide hj2
    have CP := hide (fun (w' : World) (o : Old W w') => parse_okC ⟨#[123, 34, 118, 34, 58, 49, 125]⟩ j w' (by decide) hj1 (HE.out.old o) (HT.out.old o))
    clear hj1 hj2 hj3
    go_wp2_with fail
    refine (CP.out _ (Old.alloc HO.out _)).mono ?_
    rintro e w1 ⟨⟨tv, rfl, t1⟩, o1⟩
    have O1 := hide (Old.trans HO.out (Old.trans (Old.alloc (Old.refl w0) _) o1))
    have R1 := hide (TextRow.old (text_row w0 nm6 _ 9 6 rfl rfl) o1)
    have T1 := hide t1.sl
    obtain ⟨TA, Tc, rfl, _⟩ := t1
    clear o1 CP
    generalize j.flat = t at *
    obtain ⟨tn, htn⟩ : ∃ tn, Hid (t.length = tn) := ⟨_, hide rfl⟩
    have T1 := hide (show NodesIs w1 (.slice TA tn Tc) t by rw [← htn.out]; exact T1.out)
    rw [htn.out]
    go_wp2_with fail
    go_loopw [13] (fun iv wr => ∃ i : Nat, iv = .int .i64 i ∧ i ≤ 6 ∧ Hid (Old w1 wr)) (fun iv _ => 6 - (intOf iv).toNat)
    case atStart => exact ⟨0, rfl, by omega, hide (Old.refl _)⟩
    case round =>
     obtain ⟨i, rfl, hi, HO2⟩ := hrel
     by_cases hli : i < 6
     · have hlii : (i : Int) < 6 := by omega
       obtain ⟨nm, _, x1⟩ := R1.out i hli
       have y1 := Old.cell HO2.out x1
       clear x1
       go_wp2_with fail
       refine (CMP.out _ _ _ [colK nm 2 false] [⟨false, 1, ⟨#[]⟩⟩] t _ (Old.alloc (Old.alloc (Old.trans O1.out HO2.out) _) _) (Sl.old (col_lit wr nm 2 false) (Old.alloc (Old.refl _) _)) (col_lit2 wr _ false 1 ⟨#[]⟩) (Sl.old T1.out (Old.alloc (Old.alloc HO2.out _) _)) (wf_one _ _ _ (by omega) (by omega)) HJ.out).mono ?_
       rintro e w2 ⟨rfl, o2⟩
       have O2 := hide (Old.trans (Old.alloc (Old.alloc HO2.out _) _) o2)
       clear o2
       go_wp2_with fail
       go_roundw
       case rel => exact ⟨i + 1, by go_num, by omega, O2⟩
       case measure => simp [intOf]; omega
     · have hlii : ¬ (i : Int) < 6 := by omega
       obtain ⟨w2, hw2⟩ : ∃ x, x = wr := ⟨_, rfl⟩
       subst hw2
       have O2 := hide (Old.trans O1.out HO2.out)
       have T2 := hide (Sl.old T1.out HO2.out)
       obtain ⟨i0, hi0, hz0, hz1, hz2⟩ := info_parts infoB
       obtain ⟨w3, hmk, own3, grown3⟩ := run_make_full (P := Tryz.prog) (w := w2) w2.heap.size 57 5 i0 _ 1 Tryz.underlying57 hi0 hz0 hz1 .i64 .i64 1025 (by rw [hz2]; decide) (by unfold maxLen; omega) (Nat.le_refl _)
       have hmk' : (Instr.makeSlice 57 (.int .i64 1025) (.int .i64 1025)).run Tryz.prog w2 = .ok (.slice (some ⟨w2.heap.size, 0, none⟩) 1025 1025) w3 := hmk
       have OO3 := hide (show Old w2 w3 from (Below.refl w2.heap.size w2).grown grown3 (Nat.le_refl _) fun k hk => by cases hk)
       rw [made_bytes] at own3
       have B3 := hide (show w3.ownsRow w2.heap.size 5 1 (.slice (some ⟨w2.heap.size, 0, none⟩) 1025 1025) 1025 (Lib.byteCells (fullL 1025 0)) from own3)
       obtain ⟨g, hg⟩ : ∃ g, g = w2.heap.size := ⟨_, rfl⟩
       rw [← hg] at hmk' B3
       have hgl : w2.heap.size ≤ g := by omega
       clear hmk own3 grown3 hi0 hz0 hz1 hz2 hg HO2 O1 T1 R1 hli
       go_wp2_with fail
       go_loopw [15] (fun iv wr => ∃ i : Nat, iv = .int .i64 i ∧ i ≤ 1025 ∧ Hid (wr.ownsRow g 5 1 (.slice (some ⟨g, 0, none⟩) 1025 1025) 1025 (Lib.byteCells (fullL 1025 i))) ∧ Hid (Old w2 wr)) (fun iv _ => 1025 - (intOf iv).toNat)
       case atStart => exact ⟨0, rfl, by omega, B3, OO3⟩
       case round =>
        obtain ⟨i, rfl, hi, HB, HO⟩ := hrel
        by_cases hli : i < 1025
        · have hlii : (i : Int) < 1025 := by omega
          obtain ⟨g', c', he, _, _, _, q4, q5, q6⟩ := own_set HB.out (by omega)
          injection he with he e2 e3
          clear e2 e3
          injection he with he
          injection he with he
          subst he
          have y1 := q4 i (.int .u8 0) (full_at hli)
          have y2 := q5 i
          have B4 := hide (show (wr.setCell ⟨g, i, none⟩ (.int .u8 97)).ownsRow g 5 1 (.slice (some ⟨g, 0, none⟩) 1025 1025) 1025 (Lib.byteCells (fullL 1025 (i + 1))) by
           have h9 := q6 i (.int .u8 97)
           rwa [full_set hli] at h9)
          have O4 := hide (Old.setCell (p := ⟨g, i, none⟩) HO.out hgl (.int .u8 97))
          clear q4 q5 q6
          go_wp2_with fail
          go_roundw
          case rel => exact ⟨i + 1, by go_num, by omega, B4, O4⟩
          case measure => simp [intOf]; omega
        · have hlii : ¬ (i : Int) < 1025 := by omega
          obtain rfl : i = 1025 := by omega
          obtain ⟨w4, hw4⟩ : ∃ x, x = wr := ⟨_, rfl⟩
          subst hw4
          obtain ⟨_, _, he, _, _, _, q4, _, _⟩ := own_set HB.out (by omega)
          injection he with he e2 e3
          clear e2 e3
          injection he with he
          injection he with he
          subst he
          have CE := hide (show ∀ j, j < 1025 → w4.cell? ⟨g, j, none⟩ = some (.int .u8 97) from fun j hj => q4 j _ (full_end hj))
          have O4 := hide (Old.trans O2.out HO.out)
          have T4 := hide (Sl.old T2.out HO.out)
          clear q4 HB HO O2 T2 hlii hli hi
          go_wp2_with fail
          obtain ⟨X, hX⟩ : ∃ X : Obj, X = .cells #[.int .i64 0, .string ⟨#[118]⟩, .int .i64 5, .bool false, .bool false, .int .i64 0, .string ⟨#[]⟩] 56 := ⟨_, rfl⟩
          obtain ⟨Y, hY⟩ : ∃ Y : Obj, Y = .cells #[.int .i64 0, .string ⟨#[118]⟩, .int .i64 4, .bool false, .bool false, .int .i64 0, .string ⟨#[]⟩] 56 := ⟨_, rfl⟩
          have CB := hide (show ColsIs ((w4.alloc X).alloc Y) (.slice (some ⟨w4.heap.size, 0, none⟩) 1 1) [colK ⟨#[118]⟩ 5 false] by rw [hX]; exact Sl.old (col_lit w4 ⟨#[118]⟩ 5 false) (Old.alloc (Old.refl _) _))
          have SO := hide (show ((w4.alloc X).alloc Y).ownsRow w4.heap.size 56 7 (.slice (some ⟨w4.heap.size + 1, 0, none⟩) 1 1) [colK ⟨#[118]⟩ 4 false].length (colVals [colK ⟨#[118]⟩ 4 false]) by
           have h9 := World.ownsRow_lit (base := w4.heap.size) (e := 56) (size := 7) (w4.alloc X) #[.int .i64 0, .string ⟨#[118]⟩, .int .i64 4, .bool false, .bool false, .int .i64 0, .string ⟨#[]⟩] 1 (by simp) (by unfold maxLen; omega) rfl
           rw [World.size_alloc] at h9
           rw [hY]
           exact h9)
          rw [← hX, ← hY]
          clear hX hY
          have OA : Old w4 ((w4.alloc X).alloc Y) := Old.alloc (Old.alloc (Old.refl _) _) _
          have OO5 := hide OA
          have T5 := hide (Sl.old T4.out OA)
          have CE5 := hide (fun j (hj : j < 1025) => Old.cell OA (CE.out j hj))
          have CS := hide (show ColsIs ((w4.alloc X).alloc Y) (.slice (some ⟨w4.heap.size + 1, 0, none⟩) 1 1) [colK ⟨#[118]⟩ 4 false] from (SlT.of_own SO.out).sl)
          generalize (w4.alloc X).alloc Y = w5 at *
          clear OA CE
          go_loopw [18] (fun iv wr => ∃ i : Nat, iv = .int .i64 i ∧ i ≤ 2 ∧ Hid (Old w5 wr)) (fun iv _ => 2 - (intOf iv).toNat)
          case atStart => exact ⟨0, rfl, by omega, hide (Old.refl _)⟩
          case round =>
           obtain ⟨i, rfl, hi, HO⟩ := hrel
           by_cases hli : i < 2
           · have hlii : (i : Int) < 2 := by omega
             obtain ⟨wx, hwx⟩ : ∃ x, x = wr := ⟨_, rfl⟩
             subst hwx
             go_upto_region 30 with fail
             go_cut [19] (fun xv wc => ∃ n : Nat, n ≤ 1025 ∧ xv = .string (manyA n) ∧ wc = wx)
             case first =>
              have h01 : i = 0 ∨ i = 1 := by omega
              have hcv0 := conv_full (w := wx) (g := g) (i := 0) (n := 1025) (fun j hj => Old.cell HO.out (CE5.out j (by omega)))
              have hcv1 := conv_full (w := wx) (g := g) (i := 1) (n := 1024) (fun j hj => Old.cell HO.out (CE5.out j (by omega)))
              rcases h01 with rfl | rfl
              · go_wp2_with fail
                go_meet
                exact ⟨1025, by omega, rfl, rfl⟩
              · go_wp2_with fail
                go_meet
                exact ⟨1024, by omega, rfl, rfl⟩
             obtain ⟨n, hn, hxv, hwc⟩ := hcut
             subst hxv hwc
             have hv1 := manyA_vU n
             have hs1 := manyA_size n
             have hv2 : vU (manyA n ++ manyA n) = true := by rw [manyA_two]; exact manyA_vU _
             have hs2 : (manyA n ++ manyA n).size ≤ 4000 := by rw [manyA_two, manyA_size]; omega
             generalize manyA n = Z at *
             have hz1 : Z.size ≤ 4000 := by omega
             have hz2 : ¬ 9223372036854775807 < Z.size + Z.size := by omega
             have OZ := hide (Old.trans O4.out (Old.trans OO5.out HO.out))
             have CS1 := hide (fun (w' : World) (o : Old wc w') => strK_run (Z ++ Z) hv2 hs2 w' (HT.out.old (Old.trans OZ.out o)))
             have CS2 := hide (fun (w' : World) (o : Old wc w') => strK_run Z hv1 hz1 w' (HT.out.old (Old.trans OZ.out o)))
             have OB1 := hide (obj_v hv2)
             have OB2 := hide (obj_v hv1)
             have XT1 := hide (x_texts hs2)
             have XT2 := hide (x_texts hz1)
             obtain ⟨Z2, hZ2⟩ : ∃ Z2, Hid (Z ++ Z = Z2) := ⟨_, hide rfl⟩
             rw [hZ2.out] at OB1 XT1
             have XN1 := hide (one_nums (k := ⟨#[118]⟩) (h := ⟨5, none_, 0, Z2⟩) (by show (-9223372036854775808 : Int) ≤ 0 ∧ (0 : Int) ≤ 9223372036854775807; omega))
             have XN2 := hide (one_nums (k := ⟨#[118]⟩) (h := ⟨5, none_, 0, Z⟩) (by show (-9223372036854775808 : Int) ≤ 0 ∧ (0 : Int) ≤ 9223372036854775807; omega))
             generalize (oneO ⟨#[118]⟩ ⟨5, none_, 0, Z2⟩).flat = tz2 at *
             generalize (oneO ⟨#[118]⟩ ⟨5, none_, 0, Z⟩).flat = tz1 at *
             clear hv1 hv2 hs1 hs2 hn
             go_wp2_with fail
             refine (CS1.out _ (Old.alloc (Old.refl _) _)).mono ?_
             rintro e w6 ⟨v6, rfl, n6, o6⟩
             rw [hZ2.out] at n6
             obtain ⟨A6, c6, rfl, q6, r6⟩ := nodes_form (m := 1) n6 rfl
             have K6 := hide (Sl.old (texts_lit wc [⟨#[118]⟩] _ rfl) o6)
             have O6 := hide (Old.trans (Old.alloc (Old.refl wc) _) o6)
             have N6 := hide n6.sl
             clear n6 o6 CS1
             go_wp2_with fail
             refine (obj_run _ _ [⟨#[118]⟩] [leafT 5 0 Z2] tz2 0 _ (Sl.old K6.out (Old.alloc (Old.refl _) _)) key_v (parts_lit w6 [((.slice A6 1 c6), leafT 5 0 Z2)] _ rfl (one_p N6.out)) XT1.out (HT.out.old (Old.trans OZ.out (Old.alloc O6.out _))) OB1.out).mono ?_
             rintro e w7 ⟨v7, rfl, n7, o7⟩
             have O7 := hide (Old.trans (Old.alloc O6.out _) o7)
             have N7 := hide n7.sl
             obtain ⟨A7, m7, c7, rfl⟩ : ∃ A m c, v7 = .slice A m c := by
              obtain ⟨A, c, rfl, _⟩ := n7
              exact ⟨_, _, _, rfl⟩
             clear n7 o7
             go_wp2_with fail
             refine (CS2.out _ (Old.alloc O7.out _)).mono ?_
             rintro e w8 ⟨v8, rfl, n8, o8⟩
             obtain ⟨A8, c8, rfl, q8, r8⟩ := nodes_form (m := 1) n8 rfl
             have K8 := hide (Sl.old (texts_lit w7 [⟨#[118]⟩] _ rfl) o8)
             have O8 := hide (Old.trans (Old.alloc O7.out _) o8)
             have M8 := hide (Sl.old N7.out (Old.trans (Old.alloc (Old.refl w7) _) o8))
             have N8 := hide n8.sl
             clear n8 o8 CS2
             go_wp2_with fail
             refine (obj_run _ _ [⟨#[118]⟩] [leafT 5 0 Z] tz1 0 _ (Sl.old K8.out (Old.alloc (Old.refl _) _)) key_v (parts_lit w8 [((.slice A8 1 c8), leafT 5 0 Z)] _ rfl (one_p N8.out)) XT2.out (HT.out.old (Old.trans OZ.out (Old.alloc O8.out _))) OB2.out).mono ?_
             rintro e w9 ⟨v9, rfl, n9, o9⟩
             have O9 := hide (Old.trans (Old.alloc O8.out _) o9)
             have M9 := hide (Sl.old M8.out (Old.trans (Old.alloc (Old.refl w8) _) o9))
             have N9 := hide n9.sl
             obtain ⟨A9, m9, c9, rfl⟩ : ∃ A m c, v9 = .slice A m c := by
              obtain ⟨A, c, rfl, _⟩ := n9
              exact ⟨_, _, _, rfl⟩
             have OC9 := hide (Old.trans HO.out O9.out)
             clear n9 o9 M8 K8 K6 N6 N8
             go_wp2_with fail
             refine (CMP.out _ _ _ _ _ tz2 _ (Old.alloc (Old.trans OZ.out O9.out) _) (Sl.old CB.out (Old.alloc OC9.out _)) (cell_lit w9 false 0 Z) (Sl.old M9.out (Old.alloc (Old.refl _) _)) (wf_one _ _ _ (by omega) (by omega)) XN1.out).mono ?_
             rintro e w10 ⟨rfl, o10⟩
             have OO10 := hide (Old.trans (Old.alloc (Old.refl w9) _) o10)
             have OZ10 := hide (Old.trans OZ.out (Old.trans O9.out OO10.out))
             have OC10 := hide (Old.trans OC9.out OO10.out)
             clear o10
             go_wp2_with fail
             refine (CMP.out _ _ _ _ _ tz1 _ (Old.alloc OZ10.out _) (Sl.old CS.out (Old.alloc OC10.out _)) (cell_lit w10 false 0 Z) (Sl.old N9.out (Old.alloc OO10.out _)) (wf_one _ _ _ (by omega) (by omega)) XN2.out).mono ?_
             rintro e w11 ⟨rfl, o11⟩
             have O11 := hide (Old.trans OC10.out (Old.trans (Old.alloc (Old.refl w10) _) o11))
             clear o11
             go_wp2_with fail
             go_roundw
             case rel => exact ⟨i + 1, by go_num, by omega, O11⟩
             case measure => simp [intOf]; omega
           · have hlii : ¬ (i : Int) < 2 := by omega
             have OZ := hide (Old.trans O4.out (Old.trans OO5.out HO.out))
             go_wp2_with fail
             refine (CW.out _ OZ.out).mono ?_
             rintro e w6 ⟨rfl, o6⟩
             have OO6 := hide (Old.trans HO.out o6)
             have O6 := hide (Old.trans O4.out (Old.trans OO5.out OO6.out))
             clear o6
             go_wp2_with fail
             refine (CMP.out _ _ _ [] [] [⟨7, none_, 0, none_, 1⟩] _ (Old.alloc O6.out _) (Sl.nil_ _) (Sl.nil_ _) (one_node w6 ⟨7, none_, 0, none_, 1⟩ _ rfl 0 (Nat.zero_le _)).sl (fun c hc => by cases hc) (fun y hy => by
              simp only [List.mem_singleton] at hy
              subst hy
              show (-9223372036854775808 : Int) ≤ 0 ∧ (0 : Int) ≤ 9223372036854775807
              omega)).mono ?_
             rintro e w7 ⟨rfl, o7⟩
             have OO7 := hide (Old.trans OO6.out (Old.trans (Old.alloc (Old.refl w6) _) o7))
             have O7 := hide (Old.trans O4.out (Old.trans OO5.out OO7.out))
             clear o7
             go_wp2_with fail
             refine (CMP.out _ _ _ [] [] [] _ O7.out (Sl.nil_ _) (Sl.nil_ _) (Sl.nil_ _) (fun c hc => by cases hc) (fun y hy => by cases hy)).mono ?_
             rintro e w8 ⟨rfl, o8⟩
             have OO8 := hide (Old.trans OO7.out o8)
             have OP8 := hide (Old.trans OO5.out OO8.out)
             clear o8
             go_wp2_with (at_builtin; refine wpList_step (fun K hK => ?_); rw [if_pos (show Region.wanted _ _ = true from rfl)]; refine step_push_cols _ _ _ rfl w4.heap.size _ [colK ⟨#[118]⟩ 4 false] rfl (own_old SO.out OO8.out) _ [colK ⟨#[118]⟩ 4 false] rfl (Sl.old CS.out OO8.out) (show 2 ≤ 1048576 by omega) OP8.out.size ?_; intro v9 w9 own9 kept9; refine hK _ _ ?_; clear hK)
             have O9 := hide (Old.trans O4.out (kept9.old OP8.out (Nat.le_refl _)))
             have C9 := hide (SlT.of_own own9).sl
             have T9 := hide (Sl.old T4.out (kept9.old OP8.out (Nat.le_refl _)))
             refine (CMP.out _ _ _ ([colK ⟨#[118]⟩ 4 false] ++ [colK ⟨#[118]⟩ 4 false]) [] t _ O9.out C9.out (Sl.nil_ _) T9.out (fun c hc => by cases hc) HJ.out).mono ?_
             rintro e w10 ⟨rfl, o10⟩
             have O10 := hide (Old.trans O9.out o10)
             clear o10
             go_wp2_with fail
             go_ret
             exact ⟨rfl, O10.out⟩
end Go.Proofs.YthlfljmfggmfdaaGreatDoor

/-! ###  -/
namespace Go.Proofs.YthlfljmfggmfdaaGreatDoor
open Go.RowKit Go.ChangeShapes Go.WideShapes Go.Deep
theorem pow_eq : (Rows.laid_internal_strconv_uint64pow10 : DataW Unit) = Lib.tabData .u64 Lib.pow10Tab := by kernel_rfl
theorem tabIs_reads {P : Program} {W : World} {name : String} {k : IntKind} {zs : List Int} {g : Nat} {t e : TypeId} {n : Nat}
 (hg : P.globalNamed name = some g) (hty : (P.globals[g]?).map (·.type) = some t) (ht : P.underlying t = some (.array n e)) (he : P.underlying e = some (.int k)) (hce : P.cellsOf e = 1) (hct : P.cellsOf t = n)
 (h : Lib.VarReads P W name (Lib.tabData k zs)) : Lib.TabIs P W name k zs := by
 obtain ⟨g', t', cs, fuel, p, hg', ht', hvar, hd⟩ := h
 obtain rfl := Option.some.inj (hg.symm.trans hg')
 obtain rfl := Option.some.inj (hty.symm.trans ht')
 unfold Lib.TabIs
 rw [hvar, ← Lib.cells_of_tab ht he hce hct hd]
theorem seven_pow {W : World} (h : laidMetH Tryz.prog laidSeven W) : PowTab W := by
 rw [Go.MakeChecks.laidMetH_plain _ _ _ (by kernel_rfl)] at h
 have h2 := Lib.laidMet.reads h (.tail _ (.tail _ (.head _)))
 rw [pow_eq] at h2
 exact tabIs_reads (g := 2) (t := 242) (e := 196) (n := 20) (by kernel_rfl) (by kernel_rfl) (by kernel_rfl) Tryz.underlying196 (by kernel_rfl) (by kernel_rfl) h2
end Go.Proofs.YthlfljmfggmfdaaGreatDoor
