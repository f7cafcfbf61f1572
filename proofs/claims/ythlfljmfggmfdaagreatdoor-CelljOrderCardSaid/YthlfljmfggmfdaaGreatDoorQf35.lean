/-  -/
import Derived.Test.YthlfljmfggmfdaaGreatDoorQf32
import Derived.Test.YthlfljmfggmfdaaGreatDoorQf34
import Derived.StillTailTactics
import Derived.Deep.DeepCutAuto
/-! ###  -/
namespace Go.Proofs.YthlfljmfggmfdaaGreatDoor
open Go.RowKit
def brg (i : Int) (n : Nat) : Nat := if i.tmod n < 0 then (i.tmod n + n).toNat else (i.tmod n).toNat
theorem brg_lt (i : Int) {n : Nat} (hn : 0 < n) : brg i n < n := by
 have h1 := Int.tmod_lt_of_pos i (show (0 : Int) < n by omega)
 have h2 := Int.neg_tmod i n
 have h3 : -(n : Int) < i.tmod n := by
  have := Int.tmod_lt_of_pos (-i) (show (0 : Int) < n by omega)
  rw [h2] at this
  omega
 unfold brg
 split <;> omega
set_option maxRecDepth 100000 in
theorem bring_is (i : Int) (n : Nat) (w : World) (hn : 0 < n) (hn' : n ≤ 1048576) :
 Calls Tryz.prog 30 #[.int .i64 i, .int .i64 n] w fun e w' => e = .returned (.int .i64 (brg i n)) ∧ w = w' := by
 have h1 := Int.tmod_lt_of_pos i (show (0 : Int) < n by omega)
 have h2 := Int.neg_tmod i n
 have h3 : -(n : Int) < i.tmod n := by
  have := Int.tmod_lt_of_pos (-i) (show (0 : Int) < n by omega)
  rw [h2] at this
  omega
 clear h2
 go_enter Tryz.func30, Tryz.ntmps30
 go_wp2_with fail
 · go_ret
   exact ⟨ret_int (by unfold brg; rw [if_pos (by omega)]; omega), rfl⟩
 · go_ret
   exact ⟨ret_int (by unfold brg; rw [if_neg (by omega)]; omega), rfl⟩
def abcs : ByteArray := ⟨#[97, 98, 99, 100, 101, 102, 103, 104, 105, 106, 107, 108, 109, 110, 111, 112, 113, 114, 115, 116]⟩
def mName (i n : Nat) : ByteArray := abcs.extract i (i + 1) ++ ⟨#[95]⟩ ++ abcs.extract n (n + 1)
def mK (x : Trip) : Int := (brg x.1 5 : Int) + 1
def mB (x : Trip) : Bool := (brg x.2.1 2 : Int) == 1
def mN (x : Trip) : Nat := brg x.2.2 6
def mNum (n : Nat) : Int := [0, 1, -1, 2147483647, -2147483648, 77].getD n 0
def mBig (n : Nat) : Int := [0, 0, 0, 9223372036854775807, -9223372036854775808, 1099511627776].getD n 0
def mStr (n : Nat) : ByteArray := [⟨#[]⟩, ⟨#[97]⟩, ⟨#[110, 117, 108, 108]⟩, ⟨#[195, 164, 10]⟩, ⟨#[34]⟩, ⟨#[48, 48, 102, 102]⟩].getD n ⟨#[]⟩
def mByt (n : Nat) : ByteArray := [⟨#[]⟩, ⟨#[0]⟩, ⟨#[255, 254]⟩, ⟨#[97]⟩, ⟨#[48, 102]⟩, ⟨#[34, 92]⟩].getD n ⟨#[]⟩
def cellB (k : Int) (b : Bool) (n : Nat) : Cell :=
 if b = true ∧ n = 5 then ⟨true, 0, ⟨#[]⟩⟩ else if k = 1 then ⟨false, (n : Int) % 2, ⟨#[]⟩⟩ else if k = 3 ∧ 2 < n then ⟨false, mBig n, ⟨#[]⟩⟩ else if k = 4 then ⟨false, 0, mStr n⟩ else if k = 5 then ⟨false, 0, mByt n⟩ else ⟨false, mNum n, ⟨#[]⟩⟩
def colB (i : Nat) (k : Int) (b : Bool) (n : Nat) : Col := ⟨(i : Int) + 1, mName i n, k, b, ⟨false, 0, ⟨#[]⟩⟩⟩
def mCol (L : List Trip) (i : Nat) : Col := let x := L.getD i (0, 0, 0); colB i (mK x) (mB x) (mN x)
def mCell (L : List Trip) (i : Nat) : Cell := let x := L.getD i (0, 0, 0); cellB (mK x) (mB x) (mN x)
def mCols (L : List Trip) (m : Nat) : List Col := (List.range m).map (mCol L)
def mRow (L : List Trip) (m : Nat) : List Cell := (List.range m).map (mCell L)
def mLen (L : List Trip) : Nat := min L.length 20
theorem mCols_len (L : List Trip) (m : Nat) : (mCols L m).length = m := by simp [mCols]
theorem mRow_len (L : List Trip) (m : Nat) : (mRow L m).length = m := by simp [mRow]
theorem mCols_next (L : List Trip) (m : Nat) : mCols L (m + 1) = mCols L m ++ [mCol L m] := by simp [mCols, List.range_succ]
theorem mRow_next (L : List Trip) (m : Nat) : mRow L (m + 1) = mRow L m ++ [mCell L m] := by simp [mRow, List.range_succ]
def TBox (w : World) (b : Nat) (k : Int) (n : Bool) : Prop := w.heap[b]? = some (.cells #[.int .i64 k, .bool n] 54)
def SBox (w : World) (b : Nat) (v : Value) : Prop := w.heap[b]? = some (.cells #[v] 44)
theorem SBox.old {w w' : World} {b : Nat} {v : Value} (h : SBox w b v) (o : Old w w') : SBox w' b v := (o.block _ (block_lt h)).trans h
theorem SBox.cell {w : World} {b : Nat} {v : Value} (h : SBox w b v) : w.cell? ⟨b, 0, none⟩ = some v := (cell_of_heap h).trans rfl
theorem mAt {L : List Trip} {i K B N : Nat} {b : Bool} {x : Trip} (h : i < L.length) (hx : L[i] = x) (hK : brg x.1 5 = K) (hB : brg x.2.1 2 = B) (hN : brg x.2.2 6 = N) (hb : ((B : Int) == 1) = b) : mCol L i = colB i ((K : Int) + 1) b N ∧ mCell L i = cellB ((K : Int) + 1) b N := by
 have e : L.getD i (0, 0, 0) = x := by rw [List.getD_eq_getElem?_getD, List.getElem?_eq_getElem h, hx]; rfl
 unfold mCol mCell
 rw [e]
 simp only [mK, mB, mN, hK, hB, hN, hb, and_self]
theorem TBox.old {w w' : World} {b : Nat} {k : Int} {n : Bool} (h : TBox w b k n) (o : Old w w') : TBox w' b k n := (o.block _ (block_lt h)).trans h
theorem TBox.cells {w : World} {b : Nat} {k : Int} {n : Bool} (h : TBox w b k n) : w.cell? ⟨b, 0, none⟩ = some (.int .i64 k) ∧ w.cell? ⟨b, 1, none⟩ = some (.bool n) := ⟨(cell_of_heap h).trans rfl, (cell_of_heap h).trans rfl⟩
def MadeT (w : World) (L : List Trip) (e : Ending) (w' : World) : Prop :=
 ∃ cv rv, e = .returned (.tuple #[cv, rv]) ∧ ColsT w.heap.size w' cv (mCols L (mLen L)) ∧ CellsT w.heap.size w' rv (mRow L (mLen L)) ∧ Old w w'
theorem trip_at {w : World} {v : Value} {L : List Trip} (h : TripsIs w v L) {i : Nat} (hi : i < L.length) : ∃ b off len cap, v = .slice (some ⟨b, off, none⟩) len cap ∧
 w.cell? ⟨b, off + i * 3, none⟩ = some (.int .i64 L[i].1) ∧ w.cell? ⟨b, off + i * 3 + 1, none⟩ = some (.int .i64 L[i].2.1) ∧ w.cell? ⟨b, off + i * 3 + 2, none⟩ = some (.int .i64 L[i].2.2) := by
 obtain ⟨A, cap, rfl, _, _, h3⟩ := h
 have hne : tripVals L ≠ [] := fun h0 => by
  have := tripVals_length L
  rw [h0] at this
  simp at this
  omega
 obtain ⟨b, off, rfl, hc⟩ := h3 hne
 have g : ∀ k, k < 3 → ∀ u, (tripV L[i])[k]? = some u → w.cell? ⟨b, off + (i * 3 + k), none⟩ = some u := fun k hk u hu => hc _ u ((tripVals_get L i k hk hi).trans hu)
 refine ⟨b, off, _, _, rfl, ?_, ?_, ?_⟩
 · exact g 0 (by omega) _ rfl
 · exact g 1 (by omega) _ rfl
 · exact g 2 (by omega) _ rfl
theorem tab_at {w : World} {T : TypeId} {vs : Array Value} {n : Nat} {u : Value} (h : vs[n]? = some u) : (w.alloc (.cells vs T)).cell? ⟨w.heap.size, n, none⟩ = some u := (cell_of_heap (heap_alloc_new w _)).trans h
theorem tabNum {n : Nat} (h : n < 6) : (#[.int .i64 0, .int .i64 1, .int .i64 (-1), .int .i64 2147483647, .int .i64 (-2147483648), .int .i64 77] : Array Value)[n]? = some (.int .i64 (mNum n)) := by
 match n, h with
 | 0, _ | 1, _ | 2, _ | 3, _ | 4, _ | 5, _ => rfl
theorem tabStr {n : Nat} (h : n < 6) : (#[.string ⟨#[]⟩, .string ⟨#[97]⟩, .string ⟨#[110, 117, 108, 108]⟩, .string ⟨#[195, 164, 10]⟩, .string ⟨#[34]⟩, .string ⟨#[48, 48, 102, 102]⟩] : Array Value)[n]? = some (.string (mStr n)) := by
 match n, h with
 | 0, _ | 1, _ | 2, _ | 3, _ | 4, _ | 5, _ => rfl
theorem tabByt {n : Nat} (h : n < 6) : (#[.string ⟨#[]⟩, .string ⟨#[0]⟩, .string ⟨#[255, 254]⟩, .string ⟨#[97]⟩, .string ⟨#[48, 102]⟩, .string ⟨#[34, 92]⟩] : Array Value)[n]? = some (.string (mByt n)) := by
 match n, h with
 | 0, _ | 1, _ | 2, _ | 3, _ | 4, _ | 5, _ => rfl
theorem made_store {wr W2 Wx : World} {p q : Nat} {k : Int} {b : Bool} {n : Nat} {c d : Cell} (hO : Old wr W2) (hp : p = wr.heap.size) (hpq : p < q) (hT : TBox W2 p k b) (hC : CBox W2 q d) (ho : Old W2 Wx) (hc : cellB k b n = c) :
 Hid (Old wr (((Wx.setCell ⟨q, 0, none⟩ (.bool c.null)).setCell ⟨q, 1, none⟩ (.int .i64 c.n)).setCell ⟨q, 2, none⟩ (.string c.s))) ∧ Hid (TBox (((Wx.setCell ⟨q, 0, none⟩ (.bool c.null)).setCell ⟨q, 1, none⟩ (.int .i64 c.n)).setCell ⟨q, 2, none⟩ (.string c.s)) p k b) ∧ Hid (CBox (((Wx.setCell ⟨q, 0, none⟩ (.bool c.null)).setCell ⟨q, 1, none⟩ (.int .i64 c.n)).setCell ⟨q, 2, none⟩ (.string c.s)) q (cellB k b n)) := by
 have hle : wr.heap.size ≤ q := by omega
 refine ⟨hide (Old.setCell (Old.setCell (Old.setCell (Old.trans hO ho) hle _) hle _) hle _), hide ?_, hide ?_⟩
 · show (World.heap _)[_]? = _
   rw [heap_set_other (by omega), heap_set_other (by omega), heap_set_other (by omega)]
   exact hT.old ho
 · rw [hc]
   exact set3_heap (hC.old ho) _ _ _
theorem notB {b : Bool} {n : Nat} (h : (b = true ∧ n ≠ 5) ∨ b = false) : ¬ (b = true ∧ n = 5) ∧ (b = true → ((n : Int) == 5) = false) := by
 rcases h with ⟨rfl, h⟩ | rfl
 · exact ⟨fun h' => h h'.2, fun _ => beq_eq_false_iff_ne.2 (by omega)⟩
 · exact ⟨fun h' => (by cases h'.1), fun h' => (by cases h')⟩
theorem threeB (b : Bool) (n : Nat) : (b = true ∧ n = 5) ∨ (b = true ∧ n ≠ 5) ∨ b = false := by
 cases b
 · exact .inr (.inr rfl)
 · by_cases h : n = 5
   · exact .inl ⟨rfl, h⟩
   · exact .inr (.inl ⟨rfl, h⟩)
theorem cellB_not {k : Int} {b : Bool} {n : Nat} (h : ¬ (b = true ∧ n = 5)) : cellB k b n = (if k = 1 then ⟨false, (n : Int) % 2, ⟨#[]⟩⟩ else if k = 3 ∧ 2 < n then ⟨false, mBig n, ⟨#[]⟩⟩ else if k = 4 then ⟨false, 0, mStr n⟩ else if k = 5 then ⟨false, 0, mByt n⟩ else ⟨false, mNum n, ⟨#[]⟩⟩ : Cell) := by unfold cellB; rw [if_neg h]
abbrev ColsOwn (base : Nat) (w : World) (v : Value) (r : List Col) : Prop := w.ownsRow base 56 7 v r.length (colVals r)
structure MS (w : World) (p q : Nat) (k : Int) (b : Bool) (c : Cell) (rv : Value) (r : List Cell) (sv : Value) (w' : World) : Prop where
 old : Old w w'
 seed : SBox w' w.heap.size sv
 ty : TBox w' p k b
 cl : CBox w' q c
 row : CellsOwn w.heap.size w' rv r
section
variable {w x y : World} {p q : Nat} {k : Int} {b : Bool} {c : Cell} {rv sv : Value} {r : List Cell}
theorem MS.step (h : MS w p q k b c rv r sv x) (o : Old x y) : MS w p q k b c rv r sv y := ⟨Old.trans h.old o, h.seed.old o, h.ty.old o, h.cl.old o, own_old h.row o⟩
theorem MS.drew (h : MS w p q k b c rv r sv x) : MS w p q k b c rv r sv x.drew := h.step (Old.drew (Old.refl _))
theorem MS.alloc (h : MS w p q k b c rv r sv x) (o : Obj) : MS w p q k b c rv r sv (x.alloc o) := h.step (Old.alloc (Old.refl _) _)
theorem MS.kept (h : MS w p q k b c rv r sv x) (o : Kept 56 w.heap.size x y) : MS w p q k b c rv r sv y :=
 ⟨o.old h.old (Nat.le_refl _), o.other _ _ _ _ h.seed (by decide), o.other _ _ _ _ h.ty (by decide), o.other _ _ _ _ h.cl (by decide), o.own h.row (by decide)⟩
end
set_option maxRecDepth 100000 in
set_option maxHeartbeats 4000000 in
theorem made_run (u : Value) (L : List Trip) (w : World) (h : TripsIs w u L) : Calls Tryz.prog 24 #[.agg #[u]] w (MadeT w L) := by
 have CB5 := hide (show ∀ i w', Calls Tryz.prog 30 #[.int .i64 i, .int .i64 5] w' fun e w2 => e = .returned (.int .i64 (brg i 5)) ∧ w' = w2 from fun i w' => bring_is i 5 w' (by omega) (by omega))
 have CB6 := hide (show ∀ i w', Calls Tryz.prog 30 #[.int .i64 i, .int .i64 6] w' fun e w2 => e = .returned (.int .i64 (brg i 6)) ∧ w' = w2 from fun i w' => bring_is i 6 w' (by omega) (by omega))
 have CB2 := hide (show ∀ i w', Calls Tryz.prog 30 #[.int .i64 i, .int .i64 2] w' fun e w2 => e = .returned (.int .i64 (brg i 2)) ∧ w' = w2 from fun i w' => bring_is i 2 w' (by omega) (by omega))
 have HS := hide h
 obtain ⟨A, cu, rfl, hlc, hcm, rest⟩ := h
 clear rest
 unfold maxLen at hcm
 obtain ⟨M, hM⟩ : ∃ M, Hid (L.length = M) := ⟨_, hide rfl⟩
 rw [hM.out] at HS hlc ⊢
 have HBX := hide (show SBox (w.alloc (.cells #[.slice A M cu] 44)) w.heap.size (.slice A M cu) from heap_alloc_new w _)
 go_enter Tryz.func24, Tryz.ntmps24
 go_wp2_with fail
 go_loopw [4, 5, 6] (fun cv rv iv wr => ∃ k : Nat, iv = .int .i64 k ∧ k ≤ M ∧ k ≤ 20 ∧ Hid (ColsOwn w.heap.size wr cv (mCols L k)) ∧ Hid (CellsOwn w.heap.size wr rv (mRow L k)) ∧ Hid (Old w wr) ∧ Hid (SBox wr w.heap.size (.slice A M cu))) (fun _ _ iv _ => 20 - (intOf iv).toNat)
 case atStart => exact ⟨0, rfl, by omega, by omega, hide (World.ownsRow_nil _ _ _ _), hide (World.ownsRow_nil _ _ _ _), hide (Old.alloc (Old.refl _) _), HBX⟩
 case round =>
  obtain ⟨k, rfl, hk, hk20, HCO, HRO, HO, HSB⟩ := hrel
  have hbx := HSB.out.cell
  by_cases hlt : k < M
  · by_cases h20 : k < 20
    · have hkL : k < L.length := by rw [hM.out]; exact hlt
      obtain ⟨b0, f0, ln, cp, he, x0, x1, x2⟩ := trip_at HS.out hkL
      injection he with he h2 h3
      subst he h2 h3
      obtain ⟨x, hx⟩ : ∃ x, Hid (L[k] = x) := ⟨_, hide rfl⟩
      rw [hx.out] at x0 x1 x2
      have e0 := HO.out.cell x0
      have e1 := HO.out.cell x1
      have e2 := HO.out.cell x2
      have hli : (k : Int) < (M : Int) := by omega
      have h20i : (k : Int) < 20 := by omega
      obtain ⟨K, hK⟩ : ∃ K, Hid (brg x.1 5 = K) := ⟨_, hide rfl⟩
      obtain ⟨B, hB⟩ : ∃ B, Hid (brg x.2.1 2 = B) := ⟨_, hide rfl⟩
      obtain ⟨N, hN⟩ : ∃ N, Hid (brg x.2.2 6 = N) := ⟨_, hide rfl⟩
      have hK5 : K < 5 := by rw [← hK.out]; exact brg_lt _ (by omega)
      have hB2 : B < 2 := by rw [← hB.out]; exact brg_lt _ (by omega)
      have hN6 : N < 6 := by rw [← hN.out]; exact brg_lt _ (by omega)
      have C5 := hide (CB5.out x.1)
      have C6 := hide (CB6.out x.2.2)
      have C2 := hide (CB2.out x.2.1)
      rw [hK.out] at C5
      rw [hN.out] at C6
      rw [hB.out] at C2
      have hwk : IntKind.i64.wrap (1 + (K : Int)) = ((K + 1 : Nat) : Int) := by rw [IntWalk.i64_in _ (by omega)]; omega
      clear x0 x1 x2
      go_wp2_with fail
      refine (C5.out _).mono ?_
      rintro e w1 ⟨rfl, rfl⟩
      go_wp2_with fail
      refine (C6.out _).mono ?_
      rintro e w1 ⟨rfl, rfl⟩
      go_wp2_with fail
      refine (C2.out _).mono ?_
      rintro e w1 ⟨rfl, rfl⟩
      go_upto_region 9 with fail
      generalize hb : ((B : Int) == 1) = b
      have hbH := hide hb
      clear hb
      obtain ⟨W1, hW1⟩ : ∃ W, W = wr.alloc (.cells #[.int .i64 ((K : Int) + 1), .bool b] 54) := ⟨_, rfl⟩
      rw [← hW1]
      have TB := hide (show TBox W1 wr.heap.size ((K : Int) + 1) b by rw [hW1]; exact heap_alloc_new _ _)
      have OA := hide (show Old wr W1 by rw [hW1]; exact Old.alloc (Old.refl _) _)
      have hszA : wr.heap.size < W1.heap.size := by rw [hW1]; simp
      clear hW1
      have xt := tab_at (w := W1) (T := 2) (tabNum hN6)
      have hNi : (N : Int) < 6 := by omega
      go_upto_block 2 with fail
      have hCB := heap_alloc_new (W1.alloc (.cells #[.int .i64 0, .int .i64 1, .int .i64 (-1), .int .i64 2147483647, .int .i64 (-2147483648), .int .i64 77] 2)) (.cells #[.bool false, .int .i64 (mNum N), .string ⟨#[]⟩] 38)
      rw [World.size_alloc] at hCB
      obtain ⟨W2, hW2⟩ : ∃ W, W = (W1.alloc (.cells #[.int .i64 0, .int .i64 1, .int .i64 (-1), .int .i64 2147483647, .int .i64 (-2147483648), .int .i64 77] 2)).alloc (.cells #[.bool false, .int .i64 (mNum N), .string ⟨#[]⟩] 38) := ⟨_, rfl⟩
      rw [← hW2] at hCB ⊢
      have O12 : Old W1 W2 := by rw [hW2]; exact Old.alloc (Old.alloc (Old.refl _) _) _
      have TB2 := hide (TB.out.old O12)
      have OB := hide (Old.trans OA.out O12)
      have CB2' := hide (show CBox W2 (W1.heap.size + 1) ⟨false, mNum N, ⟨#[]⟩⟩ from hCB)
      clear hCB xt TB OA O12 hW2
      obtain ⟨q, hq⟩ : ∃ q, q = W1.heap.size + 1 := ⟨_, rfl⟩
      rw [← hq] at CB2' ⊢
      have hqs : wr.heap.size < q := by omega
      clear hq hszA
      obtain ⟨p, hp⟩ : ∃ p, p = wr.heap.size := ⟨_, rfl⟩
      rw [← hp] at TB2 hqs ⊢
      have HPQ := hide hp
      clear hp
      go_cut [] (fun wc => Hid (Old wr wc) ∧ Hid (TBox wc p ((K : Int) + 1) b) ∧ Hid (CBox wc q (cellB ((K : Int) + 1) b N)))
      case first =>
       obtain ⟨y0, y1⟩ := TB2.out.cells
       obtain ⟨z0, z1, z2⟩ := CB2'.out.cells
       have fz0 := CB2'.out.free 0
       have fz1 := CB2'.out.free 1
       have fz2 := CB2'.out.free 2
       have al : ∀ o, Old W2 (W2.alloc o) := fun o => Old.alloc (Old.refl _) _
       have a0 := fun o => (al o).cell z0
       have a1 := fun o => (al o).cell z1
       have a2 := fun o => (al o).cell z2
       have g0 := fun o => (al o).frozen z0 fz0
       have g1 := fun o => (al o).frozen z1 fz1
       have g2 := fun o => (al o).frozen z2 fz2
       have xs := tab_at (w := W2) (T := 9) (tabStr hN6)
       have xb := tab_at (w := W2) (T := 9) (tabByt hN6)
       have FIN := hide (fun (Wx : World) (ho : Old W2 Wx) (c : Cell) (hc : cellB ((K : Int) + 1) b N = c) => made_store OB.out HPQ.out hqs TB2.out CB2'.out ho hc)
       have FIS := hide (fun (hc : cellB ((K : Int) + 1) b N = ⟨false, mNum N, ⟨#[]⟩⟩) => show Hid (Old wr W2) ∧ Hid (TBox W2 p ((K : Int) + 1) b) ∧ Hid (CBox W2 q (cellB ((K : Int) + 1) b N)) from ⟨OB, TB2, by rw [hc]; exact CB2'⟩)
       have AL := hide al
       clear al
       rcases threeB b N with ⟨rfl, rfl⟩ | hbn
       · go_wp2_with fail
         go_meet
         exact FIN.out _ (Old.refl _) ⟨true, 0, ⟨#[]⟩⟩ rfl
       · obtain ⟨hnb, h5⟩ := notB hbn
         clear hbn
         have WK := hide (cellB_not (k := (K : Int) + 1) hnb)
         clear hnb
         cases b
         all_goals
          try have h5 := h5 rfl
          obtain rfl | rfl | rfl | rfl | rfl : K = 0 ∨ K = 1 ∨ K = 2 ∨ K = 3 ∨ K = 4 := by omega
          · go_wp2_with fail
            go_meet
            exact FIN.out _ (Old.refl _) ⟨false, (N : Int) % 2, ⟨#[]⟩⟩ (WK.out.trans (by rw [if_pos (by decide)]))
          · have WK2 := hide (FIS.out (WK.out.trans (by rw [if_neg (by decide), if_neg (by omega), if_neg (by decide), if_neg (by decide)])))
            clear WK FIN
            go_wp2_with fail
            go_meet
            exact WK2.out
          · obtain rfl | rfl | rfl | h2 : N = 3 ∨ N = 4 ∨ N = 5 ∨ N ≤ 2 := by omega
            · go_wp2_with fail
              go_meet
              exact FIN.out _ (AL.out _) ⟨false, 9223372036854775807, ⟨#[]⟩⟩ (WK.out.trans (by rw [if_neg (by decide), if_pos ⟨by decide, by omega⟩]; rfl))
            · go_wp2_with fail
              go_meet
              exact FIN.out _ (AL.out _) ⟨false, -9223372036854775808, ⟨#[]⟩⟩ (WK.out.trans (by rw [if_neg (by decide), if_pos ⟨by decide, by omega⟩]; rfl))
            · first
              | (exfalso; revert h5; decide)
              | (go_wp2_with fail
                 go_meet
                 exact FIN.out _ (AL.out _) ⟨false, 1099511627776, ⟨#[]⟩⟩ (WK.out.trans (by rw [if_neg (by decide), if_pos ⟨by decide, by omega⟩]; rfl)))
            · have h2' : ¬ (2 : Int) < (N : Int) := by omega
              have WK2 := hide (FIS.out (WK.out.trans (by rw [if_neg (by decide), if_neg (by omega), if_neg (by decide), if_neg (by decide)])))
              clear WK FIN
              go_wp2_with fail
              go_meet
              exact WK2.out
          · go_wp2_with fail
            go_meet
            exact FIN.out _ (AL.out _) ⟨false, 0, mStr N⟩ (WK.out.trans (by rw [if_neg (by decide), if_neg (by omega), if_pos (by decide)]))
          · go_wp2_with fail
            go_meet
            exact FIN.out _ (AL.out _) ⟨false, 0, mByt N⟩ (WK.out.trans (by rw [if_neg (by decide), if_neg (by omega), if_neg (by decide), if_pos (by decide)]))
      obtain ⟨OC, TC, CC⟩ := hcut
      obtain ⟨c, hc⟩ : ∃ c, Hid (cellB ((K : Int) + 1) b N = c) := ⟨_, hide rfl⟩
      rw [hc.out] at CC
      have HCOc := hide (own_old HCO.out OC.out)
      have MS0 : MS w p q ((K : Int) + 1) b c u5 (mRow L k) (.slice (some ⟨b0, f0, none⟩) M cu) wc := ⟨Old.trans HO.out OC.out, HSB.out.old OC.out, TC.out, CC.out, own_old HRO.out OC.out⟩
      have hwi : IntKind.i64.wrap ((k : Int) + 1) = (k : Int) + 1 := IntWalk.i64_in _ (by omega)
      have hwn : IntKind.i64.wrap ((N : Int) + 1) = (N : Int) + 1 := IntWalk.i64_in _ (by omega)
      have hn0 : (N : Int) + 1 ≤ 20 := by omega
      have hk0 : (k : Int) + 1 ≤ 20 := by omega
      have ba : (0 : Int) ≤ (k : Int) + 1 := by omega
      have bb : (k : Int) ≤ (k : Int) + 1 := by omega
      have bc : (0 : Int) ≤ (N : Int) + 1 := by omega
      have bd : (N : Int) ≤ (N : Int) + 1 := by omega
      have be : ¬ 9223372036854775807 < min (k + 1) 20 - k + 1 := by omega
      have bf : ¬ 9223372036854775807 < min (k + 1) 20 - k + 1 + (min (N + 1) 20 - N) := by omega
      have L1 : (mCols L k).length + [colB k ((K : Int) + 1) b N].length ≤ 1048576 := by rw [mCols_len]; simp; omega
      have L2 : (mRow L k).length + [c].length ≤ 4194304 := by rw [mRow_len]; simp; omega
      have y0 : ∀ w', MS w p q ((K : Int) + 1) b c u5 (mRow L k) (.slice (some ⟨b0, f0, none⟩) M cu) w' → w'.cell? ⟨p, 0, none⟩ = some (.int .i64 ((K : Int) + 1)) := fun w' h => h.ty.cells.1
      have y1 : ∀ w', MS w p q ((K : Int) + 1) b c u5 (mRow L k) (.slice (some ⟨b0, f0, none⟩) M cu) w' → w'.cell? ⟨p, 1, none⟩ = some (.bool b) := fun w' h => h.ty.cells.2
      have CLT := hide (fun W => cols_lit W [colB k ((K : Int) + 1) b N] #[.int .i64 ((k : Int) + 1), .string (mName k N), .int .i64 ((K : Int) + 1), .bool b, .bool false, .int .i64 0, .string ⟨#[]⟩] rfl 1 rfl (by omega) 0 (Nat.zero_le _))
      clear OB CB2' TB2 TC CC OC
      go_upto_region 20 with fail
      go_region_held3 (fun w' => MS w p q ((K : Int) + 1) b c u5 (mRow L k) (.slice (some ⟨b0, f0, none⟩) M cu) w')
       (first | assumption | (exact MS.drew MS0) | (exact MS.alloc (MS.drew MS0) _) | (exact MS.alloc (by assumption) _) | (exact MS.kept (by assumption) (by assumption)) | (exact MS.kept (MS.alloc (MS.drew MS0) _) (by assumption)))
       (first
         | (refine step_push_cols _ _ _ rfl w.heap.size _ (mCols L k) rfl (own_old HCOc.out (Old.alloc (Old.drew (Old.refl _)) _)) _ [colB k ((K : Int) + 1) b N] rfl (CLT.out _).sl L1 (Below.size (MS.alloc (MS.drew MS0) _).old) ?_; intro v1 w7 own1 kept1)
         | (fail "none"))
      have MS7 : MS w p q ((K : Int) + 1) b c u5 (mRow L k) (.slice (some ⟨b0, f0, none⟩) M cu) w7 := by assumption
      obtain ⟨e1, e2⟩ := mAt hkL hx.out hK.out hB.out hN.out hbH.out
      have CO7 := hide (show ColsOwn w.heap.size w7 v1 (mCols L (k + 1)) by rw [mCols_next, e1]; exact own1)
      have RE := hide (show mRow L (k + 1) = mRow L k ++ [c] by rw [mRow_next, e2, hc.out])
      have RO7 := hide MS7.row
      have O7 := hide MS7.old
      have SB7 := hide MS7.seed
      obtain ⟨z0, z1, z2⟩ := MS7.cl.cells
      have RLT := hide (fun W => cells_lit W [c] #[.bool c.null, .int .i64 c.n, .string c.s] rfl 1 rfl (by omega) 0 (Nat.zero_le _))
      clear e1 e2 own1 kept1 MS7 y0 y1 MS0 ba bb bc bd be bf hwn hn0 hk0 L1 CLT
      go_wp2_with (at_builtin; refine wpList_plain rfl (fun K hK => ?_); refine step_push_row _ _ _ rfl w.heap.size _ (mRow L k) rfl (own_old RO7.out (Old.alloc (Old.refl _) _)) _ [c] rfl (RLT.out _).sl L2 (Below.size (Old.alloc O7.out _)) ?_; intro v2 w8 own2 kept2; refine hK _ _ ?_; clear hK)
      go_roundw
      case rel => exact ⟨k + 1, by go_num, by omega, by omega, hide (kept2.own (own_old CO7.out (Old.alloc (Old.refl _) _)) (by decide)), hide (by rw [RE.out]; exact own2), hide (kept2.old (Old.alloc O7.out _) (Nat.le_refl _)), hide (kept2.other _ _ _ _ (SB7.out.old (Old.alloc (Old.refl _) _)) (by decide))⟩
      case measure => simp [intOf]; omega
    · have hli : (k : Int) < (M : Int) := by omega
      have h20i : ¬ (k : Int) < 20 := by omega
      have hml : mLen L = k := by unfold mLen; rw [hM.out]; omega
      go_wp2_with fail
      go_ret2
      exact ⟨_, _, rfl, by rw [hml]; exact SlT.of_own HCO.out, by rw [hml]; exact SlT.of_own HRO.out, HO.out⟩
  · have hli : ¬ (k : Int) < (M : Int) := by omega
    have hml : mLen L = k := by unfold mLen; rw [hM.out]; omega
    go_wp2_with fail
    go_ret2
    exact ⟨_, _, rfl, by rw [hml]; exact SlT.of_own HCO.out, by rw [hml]; exact SlT.of_own HRO.out, HO.out⟩
end Go.Proofs.YthlfljmfggmfdaaGreatDoor
