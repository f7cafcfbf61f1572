/- The row of a group that is seen: the walk of seen. -/
import Derived.Test.YtmfbblcipakaiaaGreatDoorGrpB
namespace Go.Proofs.YtmfbblcipakaiaaGreatDoor
open Go.RowKit

/-- a new row that may be appended to is handed back -/
def NewRowO (w0 : World) (r : List Cell) (e : Ending) (w' : World) : Prop :=
  ∃ v, e = .returned v ∧ w'.ownsRow w0.heap.size 65 3 v r.length (rowVals r) ∧ Old w0 w'
set_option maxRecDepth 100000 in
theorem clone_own (v : Value) (r : List Cell) (w : World) (h : RowIs w v r) (hlen : r.length ≤ 1048576) : Calls Tryz.prog 76 #[v] w (NewRowO w r) := by
  have H := Lib.hid h
  obtain ⟨A, cap, rfl, h1, h2, h3⟩ := h
  rcases A with _ | ad
  · have h0 : r.length = 0 := by
      rcases Nat.eq_zero_or_pos r.length with h | h
      · exact h
      · obtain ⟨b, off, hb, _⟩ := h3 (rowVals_ne h)
        cases hb
    have H0 := Lib.hid h0
    clear h3 h0
    have kn : ∀ w, (binOp .eql 49 (.slice none r.length cap) (.slice none 0 0)).run Tryz.prog w = .ok (.bool true) w := fun w => Lib.run_eql_slice_nil w _ _ _ _ _ _ _ Tryz.underlying49
    go_enter Tryz.func76, Tryz.ntmps76
    go_wp2
    go_ret
    refine ⟨_, rfl, ?_, Old.refl _⟩
    rw [H0.out, rowVals_nil H0.out]
    exact World.ownsRow_nil _ _ _ _
  · clear h3
    have kn : ∀ w, (binOp .eql 49 (.slice (some ad) r.length cap) (.slice none 0 0)).run Tryz.prog w = .ok (.bool false) w := fun w => Lib.run_eql_slice_nil w _ _ _ _ _ _ _ Tryz.underlying49
    go_enter Tryz.func76, Tryz.ntmps76
    go_wp2_with (at_builtin; refine wpList_plain rfl (fun K hK => ?_); refine step_push_row _ _ _ rfl w.heap.size _ [] rfl (World.ownsRow_lit w #[] 0 (Nat.le_refl _) (by unfold maxLen; omega) rfl) _ r rfl (Sl.old H.out (Old.alloc (Old.refl w) _)) (by simp; omega) (by simp) ?_; intro v' w' own hk; refine hK _ _ ?_; clear hK)
    go_ret
    exact ⟨_, rfl, own, hk.old (Old.alloc (Old.refl _) _) (Nat.le_refl _)⟩
theorem row_own (v : Value) (r : List Cell) (w : World) (h : RowIs w v r) (hlen : r.length ≤ 1048576) : Calls Tryz.prog 55 #[v] w (NewRowO w r) := by
  have c := clone_own v r w h hlen
  have C := Lib.hid c
  clear c h
  go_enter Tryz.func55, Tryz.ntmps55
  go_wp2_with fail
  refine C.out.mono ?_
  rintro e w1 ⟨u, rfl, h1, h2⟩
  go_wp2_with fail
  go_ret
  exact ⟨u, rfl, h1, h2⟩

/-- the row of a group that is seen -/
def seenV (k : List Cell) (ns : List Int) (wt : Int) : List Item := if ns.headD 0 = 0 then [] else [⟨k ++ ns.map numCell, wt⟩]
theorem seenV_nums (S : Nat) (f : Gf) (k : List Cell) (wt : Int) : seenV k (numsOf S f k) wt = seenIt S f k wt := by
  have h : (numsOf S f k).headD 0 = f k 0 := by
    unfold numsOf
    rw [List.range_succ_eq_map]
    rfl
  unfold seenV seenIt rowOf
  rw [h]
theorem num_head {l : List Int} (h : 0 < l.length) : (numVals l)[0]? = some (.int .i64 (l.headD 0)) := by
  cases l with
  | nil => simp at h
  | cons n l => rfl
theorem own_low {w : World} {base base' T size n : Nat} {v : Value} {xs : List Value} (h : w.ownsRow base T size v n xs) (hb : base' ≤ base) : w.ownsRow base' T size v n xs := by
  obtain ⟨hl, h2⟩ := h
  refine ⟨hl, ?_⟩
  rcases h2 with h2 | ⟨g, cap, cur, rfl, hb', r⟩
  · exact .inl h2
  · exact .inr ⟨g, cap, cur, rfl, Nat.le_trans hb hb', r⟩
theorem one_row {w : World} {g cap : Nat} {c : Cell} (h0 : w.cell? ⟨g, 0, none⟩ = some (.bool c.null)) (h1 : w.cell? ⟨g, 1, none⟩ = some (.int .i64 c.n)) (h2 : w.cell? ⟨g, 2, none⟩ = some (.string c.s)) (hc : 1 ≤ cap) (hm : cap ≤ maxLen) : RowIs w (.slice (some ⟨g, 0, none⟩) 1 cap) [c] := by
  refine ⟨_, cap, rfl, hc, hm, fun _ => ⟨g, 0, rfl, fun j u hu => ?_⟩⟩
  match j, hu with
  | 0, hu => simp [rowVals, Cell.vals] at hu; subst hu; exact h0
  | 1, hu => simp [rowVals, Cell.vals] at hu; subst hu; exact h1
  | 2, hu => simp [rowVals, Cell.vals] at hu; subst hu; exact h2
  | j + 3, hu => simp [rowVals, Cell.vals] at hu
/-- one item in a block of its own -/
theorem one_item {w : World} {lo g cap : Nat} {v : Value} {r : List Cell} {wt : Int} (hlo : lo ≤ g) (hh : w.heap[g]? = some (.cells #[v, .int .i64 wt] 60 (0, 0))) (hc : 1 ≤ cap) (hm : cap ≤ maxLen) (hr : SlT 65 lo w v r.length (rowVals r)) : ItemsT 60 65 lo w (.slice (some ⟨g, 0, none⟩) 1 cap) [⟨r, wt⟩] := by
  refine ⟨[v], rfl, ⟨_, cap, rfl, hc, hm, fun _ => ⟨g, 0, _, rfl, hlo, hh, fun j u hu => ?_⟩⟩, fun i hi hi' => ?_⟩
  · match j, hu with
    | 0, hu => simpa [itemVals] using hu
    | 1, hu => simpa [itemVals] using hu
    | j + 2, hu => simp [itemVals] at hu
  · have : i = 0 := by simpa using hi
    subst this
    exact hr
theorem take_snoc {α : Type} {l : List α} {k : Nat} (h : k < l.length) : l.take (k + 1) = l.take k ++ [l[k]] := List.take_succ_eq_append_getElem h

set_option maxRecDepth 100000 in
set_option maxHeartbeats 1000000 in
theorem seen_run (kv nv : Value) (k : List Cell) (ns : List Int) (wt : Int) (w : World) (hk : RowIs w kv k) (hn : Sl w nv ns.length (numVals ns)) (hkl : k.length ≤ 1048576) (hnl : ns.length ≤ 1048576) :
    Calls Tryz.prog 37 #[.agg #[kv, nv], .int .i64 wt] w (NewItems w (seenV k ns wt)) := by
  have HK := hide hk
  obtain ⟨Ak, ck, rfl, -, -, -⟩ := hk
  obtain ⟨A, ca, rfl, hla, hma, ha⟩ := hn
  unfold maxLen at hma
  have HA := hide ha
  clear ha
  have hw1 := fun o => (Old.refl w).alloc o
  obtain ⟨n0, hn0⟩ : ∃ n0, Hid (ns.headD 0 = n0) := ⟨_, hide rfl⟩
  obtain ⟨N, hN⟩ : ∃ N, Hid (ns.length = N) := ⟨_, hide rfl⟩
  have hG0 := hide (fun h : 0 < ns.length => num_head h)
  unfold seenV
  rw [hn0.out]
  rw [hN.out] at hla hnl ⊢
  by_cases hl : N = 0
  · have : n0 = 0 := by
      rw [← hn0.out]
      have h : ns.length = 0 := hN.out.trans hl
      rw [List.eq_nil_of_length_eq_zero h]; rfl
    rw [this, if_pos rfl]
    subst hl
    clear hG0
    go_enter Tryz.func37, Tryz.ntmps37
    go_wp2_with fail
    go_ret
    exact ⟨_, rfl, ⟨[], rfl, SlT.nil_ _, fun i h => absurd h (by simp)⟩, hw1 _⟩
  · have hne : ((N : Int) == 0) = false := by simp; omega
    have g0 := hG0.out (by rw [hN.out]; omega)
    rw [hn0.out] at g0
    obtain ⟨b1, o1, rfl, hc1⟩ := HA.out (by intro e; rw [e] at g0; simp at g0)
    have HC1 := hide hc1
    have y0 : ∀ o, (w.alloc o).cell? ⟨b1, o1, none⟩ = some (.int .i64 n0) := fun o => (hw1 o).cell (by simpa using hc1 _ _ g0)
    clear hc1 g0 hG0
    by_cases hz : n0 = 0
    · subst hz
      rw [if_pos rfl]
      go_enter Tryz.func37, Tryz.ntmps37
      go_wp2_with fail
      go_ret
      exact ⟨_, rfl, ⟨[], rfl, SlT.nil_ _, fun i h => absurd h (by simp)⟩, hw1 _⟩
    · rw [if_neg hz]
      have hz' : (n0 == 0) = false := by simpa using hz
      have HC := hide (fun o => row_own (.slice Ak k.length ck) k (w.alloc o) (HK.out.old (hw1 o)) hkl)
      clear hz
      go_enter Tryz.func37, Tryz.ntmps37
      go_wp2_with fail
      refine (HC.out _).mono ?_
      rintro e w1 ⟨u, rfl, hown, ho⟩
      have HO := hide ((hw1 _).trans ho)
      have z1 : w1.cell? ⟨w.heap.size, 1, none⟩ = some (.slice (some ⟨b1, o1, none⟩) N ca) := ho.cell (by go_simp)
      have HOWN := hide (show w1.ownsRow w.heap.size 65 3 u k.length (rowVals k) from own_low hown (by simp))
      clear hown ho y0 HC hz' hne
      go_wp2_with fail
      go_loopw [5, 25] (fun o i wr => ∃ j : Nat, i = .int .i64 j ∧ j ≤ N ∧ Hid (wr.ownsRow w.heap.size 65 3 o (k ++ (ns.take j).map numCell).length (rowVals (k ++ (ns.take j).map numCell))) ∧ Hid (Old w wr)) (fun _ i _ => N - (intOf i).toNat)
      case atStart => exact ⟨0, rfl, by omega, by simpa using HOWN, HO⟩
      case round =>
        obtain ⟨j, rfl, hj, HW, HL⟩ := hrel
        by_cases hlt : j < N
        · have hjn : j < ns.length := by rw [hN.out]; exact hlt
          have g1 := numVals_get hjn
          have y1 : wr.cell? ⟨b1, o1 + j, none⟩ = some (.int .i64 ns[j]) := HL.out.cell (HC1.out _ _ g1)
          obtain ⟨x, hx⟩ : ∃ x, Hid (ns[j] = x) := ⟨_, hide rfl⟩
          rw [hx.out] at y1
          clear g1
          go_wp2_with (at_builtin; refine wpList_plain rfl (fun K hK => ?_); refine step_push_row _ _ _ rfl w.heap.size _ _ rfl (own_old HW.out ((Old.refl wr).alloc _)) _ [⟨false, x, ⟨#[]⟩⟩] rfl (one_row (by go_simp) (by go_simp) (by go_simp) (Nat.le_refl _) (by unfold maxLen; omega)) (by simp; omega) (Nat.le_trans HL.out.size (by simp)) ?_; intro v' w' own hk; refine hK _ _ ?_; clear hK)
          go_roundw
          case rel => exact ⟨j + 1, by go_num, by omega, hide (by
            rw [take_snoc hjn, hx.out, List.map_append, ← List.append_assoc]
            exact own), hide (hk.old (HL.out.alloc _) (Nat.le_refl _))⟩
          case measure => simp [intOf]; omega
        · have hjN : j = N := by omega
          subst hjN
          have hall : ns.take j = ns := List.take_of_length_le (by rw [hN.out]; exact Nat.le_refl _)
          have HW2 := hide (show wr.ownsRow w.heap.size 65 3 u5 (k ++ ns.map numCell).length (rowVals (k ++ ns.map numCell)) from by have := HW.out; rw [hall] at this; exact this)
          obtain ⟨A5, c5, rfl, _⟩ := id (SlT.of_own HW2.out)
          clear HW hall
          go_wp2_with fail
          go_ret
          exact ⟨_, rfl, one_item (by simpa using HL.out.size) (by simp only [List.length_append, List.length_map]; exact Array.getElem?_push_size) (Nat.le_refl _) (by unfold maxLen; omega) (SlT.of_own (own_old HW2.out ((Old.refl wr).alloc _))), HL.out.alloc _⟩
end Go.Proofs.YtmfbblcipakaiaaGreatDoor
