/- The statements' own inputs: items cut short; and what is one, and what is it. -/
import Derived.Test.YtggknmagpcnkoaaRefb
namespace Go.Proofs.Ytggknmagpcnkoaa
open Go.RowKit

def cutS (s : ByteArray) : ByteArray := s.extract 0 (min (s.size : Int) 300).toNat
def cutC (c : Cell) : Cell := ⟨c.null, c.n, cutS c.s⟩
def shortRow (r : List Cell) : List Cell := (r.take 12).map cutC
def cutItems (l : List Item) : List Item := (l.take 40).map fun x => ⟨shortRow x.row, x.w⟩
theorem row_one {w : World} {g cap : Nat} {c : Cell} (hc : 1 ≤ cap) (hm : cap ≤ 1048576) (h0 : w.cell? ⟨g, 0, none⟩ = some (.bool c.null)) (h1 : w.cell? ⟨g, 1, none⟩ = some (.int .i64 c.n)) (h2 : w.cell? ⟨g, 2, none⟩ = some (.string c.s)) :
    RowIs w (.slice (some ⟨g, 0, none⟩) 1 cap) [c] := by
  refine ⟨_, _, rfl, hc, by unfold maxLen; omega, fun _ => ⟨g, 0, rfl, fun j u hu => ?_⟩⟩
  rw [rowVals_one] at hu
  match j, hu with
  | 0, hu => simp [Cell.vals] at hu; subst hu; exact h0
  | 1, hu => simp [Cell.vals] at hu; subst hu; exact h1
  | 2, hu => simp [Cell.vals] at hu; subst hu; exact h2
  | j + 3, hu => simp [Cell.vals] at hu
theorem short_next {r : List Cell} {k : Nat} (h : k < r.length) : (r.take (k + 1)).map cutC = (r.take k).map cutC ++ [⟨r[k].null, r[k].n, cutS r[k].s⟩] := by
  rw [List.take_succ_eq_append_getElem h, List.map_append]
  rfl

set_option maxRecDepth 100000 in
set_option maxHeartbeats 1000000 in
theorem short_run (v : Value) (r : List Cell) (w : World) (h : RowIs w v r) : Calls Try.prog 23 #[v] w (NewRow w (shortRow r)) := by
  obtain ⟨A, ca, rfl, hla, hma, ha⟩ := h.row
  unfold maxLen at hma
  clear h
  go_enter Try.func23, Try.ntmps23
  go_wp2_with fail
  go_loopw [3, 4] (fun o i wr => ∃ k : Nat, i = .int .i64 k ∧ k ≤ r.length ∧ k ≤ 12 ∧ Hid (wr.ownsRow w.heap.size 49 3 o ((r.take k).map cutC).length (rowVals ((r.take k).map cutC))) ∧ Old w wr) (fun _ i _ => r.length - (intOf i).toNat)
  case atStart => exact ⟨0, rfl, by omega, by omega, hide (World.ownsRow_nil _ _ _ _), Old.refl _⟩
  case round =>
    obtain ⟨k, rfl, hk, hk12, HOWN, hbl⟩ := hrel
    by_cases hlt : k < r.length
    · by_cases h12 : k < 12
      · obtain ⟨b1, o1, rfl, hc1⟩ := ha.resolve_left (by omega)
        obtain ⟨x0, x1, x2⟩ := hc1 k hlt
        have hx0 := Old.cell hbl x0
        have hx1 := Old.cell hbl x1
        have hx2 := Old.cell hbl x2
        have HN := hide (short_next hlt)
        have hlen : ((r.take k).map cutC).length + [(⟨r[k].null, r[k].n, cutS r[k].s⟩ : Cell)].length ≤ 4194304 := by simp; omega
        clear ha hc1 x0 x1 x2
        go_wp2_with (at_builtin; refine wpList_plain rfl (fun K hK => ?_); refine step_push_row _ _ _ rfl w.heap.size _ _ rfl (own_old HOWN.out (((Old.refl wr).alloc _).alloc _)) _ [⟨r[k].null, r[k].n, cutS r[k].s⟩] rfl (row_one (by omega) (by omega) (by go_simp) (by go_simp) (by unfold cutS; go_simp)) hlen ((hbl.alloc _).alloc _).size ?_; intro v' w4 own4 kept4; refine hK _ _ ?_; clear hK)
        have H5 := hide (kept4.old ((hbl.alloc _).alloc _) (Nat.le_refl _))
        clear kept4
        go_roundw
        case rel => exact ⟨k + 1, by go_num, by omega, by omega, hide (by rw [HN.out]; exact own4), H5.out⟩
        case measure => simp [intOf]; omega
      · have HS := HOWN.out
        rw [show r.take k = r.take 12 by rw [show k = 12 by omega]] at HS
        have H3 := hide HS
        clear HS
        go_wp2_with fail
        go_ret
        exact ⟨_, rfl, SlT.of_own H3.out, hbl⟩
    · have HS := HOWN.out
      rw [show r.take k = r.take 12 by rw [List.take_of_length_le (by omega), List.take_of_length_le (by omega)]] at HS
      have H3 := hide HS
      clear HS
      go_wp2_with fail
      go_ret
      exact ⟨_, rfl, SlT.of_own H3.out, hbl⟩

theorem cut_next {l : List Item} {k : Nat} (h : k < l.length) : (l.take (k + 1)).map (fun x : Item => (⟨shortRow x.row, x.w⟩ : Item)) = (l.take k).map (fun x : Item => (⟨shortRow x.row, x.w⟩ : Item)) ++ [⟨shortRow l[k].row, l[k].w⟩] := by
  rw [List.take_succ_eq_append_getElem h, List.map_append]
  rfl

set_option maxRecDepth 100000 in
set_option maxHeartbeats 1000000 in
theorem cut_run (v : Value) (l : List Item) (w : World) (hl : ItemsIs w v l) : Calls Try.prog 10 #[v] w (NewItems w (cutItems l)) := by
  obtain ⟨A, ca, us, rfl, hla, hma, hul, hur, ha⟩ := hl.open_
  unfold maxLen at hma
  have HUR := Lib.hid hur
  clear hur hl
  go_enter Try.func10, Try.ntmps10
  go_wp2_with fail
  go_loopw [3, 4] (fun o i wr => ∃ k : Nat, i = .int .i64 k ∧ k ≤ l.length ∧ k ≤ 40 ∧ Hid (ItemsOwn 37 49 w.heap.size wr o ((l.take k).map fun x => ⟨shortRow x.row, x.w⟩)) ∧ Old w wr) (fun _ i _ => l.length - (intOf i).toNat)
  case atStart => exact ⟨0, rfl, by omega, by omega, hide (ItemsOwn.nil_ _), Old.refl _⟩
  case round =>
    obtain ⟨k, rfl, hk, hk40, HO, hbl⟩ := hrel
    by_cases hlt : k < l.length
    · by_cases h40 : k < 40
      · have hku : k < us.length := by omega
        obtain ⟨b1, o1, rfl, hc1⟩ := ha.resolve_left (by omega)
        obtain ⟨x0, x1⟩ := hc1 k hlt hku
        have hx0 : ∀ w', Old w w' → w'.cell? ⟨b1, o1 + k * 2, none⟩ = some us[k] := fun w' h => h.cell x0
        have hx1 : ∀ w', Old w w' → w'.cell? ⟨b1, o1 + k * 2 + 1, none⟩ = some (.int .i64 l[k].w) := fun w' h => h.cell x1
        have hrow := HUR.out k hlt hku
        obtain ⟨q, hq⟩ : ∃ q, Hid (shortRow l[k].row = q) := ⟨shortRow l[k].row, hide rfl⟩
        have HC := hide (show ∀ w', Old w w' → Calls Try.prog 23 #[us[k]] w' fun e w2 => ∃ A cp, e = .returned (.slice A q.length cp) ∧ SlT 49 w.heap.size w2 (.slice A q.length cp) q.length (rowVals q) ∧ Old w' w2 from fun w' h => by
          have := (short_run _ _ _ (hrow.old h)).mono fun _ _ hn => NewRow.form hn h.size
          rw [hq.out] at this
          exact this)
        have HN := hide (cut_next hlt)
        rw [hq.out] at HN
        have hpush : ((l.take k).map fun x => (⟨shortRow x.row, x.w⟩ : Item)).length + 1 ≤ 4194304 := by simp; omega
        clear ha hc1 x0 x1 hrow hq
        go_wp2_with fail
        go_region_held3 (fun w' => Old w w')
          (first | (exact Old.drew hbl) | (exact Old.alloc (by assumption) _) | (exact Old.trans (by assumption) (by assumption)) | (exact Kept.old (by assumption) (by assumption) (Nat.le_refl _)))
          (first
            | (go_at_call 23; refine (HC.out _ (by assumption)).mono ?_; rintro e w1 ⟨A1, c1, rfl, hr1, hb1⟩)
            | (refine step_push_item _ _ _ rfl w.heap.size _ ((l.take k).map fun x => (⟨shortRow x.row, x.w⟩ : Item)) rfl (HO.out.old (Old.trans (Old.trans (Old.drew (Old.refl _)) hb1) (Old.alloc (Old.refl _) _))) _ _ (.slice A1 q.length c1) q l[k].w rfl (by go_simp) (by go_simp) (SlT.old hr1 (Old.alloc (Old.refl _) _)) hpush (Below.size (w := w) (by assumption)) ?_; intro v' w2 own2 kept2))
        go_wp2_with fail
        go_roundw
        case rel => exact ⟨k + 1, by go_num, by omega, by omega, hide (by rw [HN.out]; exact own2), by assumption⟩
        case measure => simp [intOf]; omega
      · have HS := HO.out
        rw [show l.take k = l.take 40 by rw [show k = 40 by omega]] at HS
        have H3 := hide HS
        clear HS
        go_wp2_with fail
        go_ret
        exact ⟨_, rfl, H3.out.t, hbl⟩
    · have HS := HO.out
      rw [show l.take k = l.take 40 by rw [List.take_of_length_le (by omega), List.take_of_length_le (by omega)]] at HS
      have H3 := hide HS
      clear HS
      go_wp2_with fail
      go_ret
      exact ⟨_, rfl, H3.out.t, hbl⟩
theorem cut_fine {l : List Item} (h : ∀ x ∈ l, fit x.w) : Fine 40 (cutItems l) where
  len := by simp [cutItems]; omega
  short := fun i hi => by simp [cutItems, shortRow]; omega
  fits := fun x hx => by
    obtain ⟨y, hy, rfl⟩ := List.mem_map.1 hx
    exact h y (List.mem_of_mem_take hy)

/-- a row of one text, with a weight -/
def oneI (s : ByteArray) (i : Int) : Item := ⟨[⟨false, 0, s⟩], i⟩
set_option maxRecDepth 100000 in
theorem one_run (s : ByteArray) (i : Int) (w : World) : Calls Try.prog 40 #[.string s, .int .i64 i] w fun e w' => ∃ g, e = .returned (.agg #[.slice (some ⟨g, 0, none⟩) 1 1, .int .i64 i]) ∧ SlT 49 w.heap.size w' (.slice (some ⟨g, 0, none⟩) 1 1) 1 (rowVals [⟨false, 0, s⟩]) ∧ Old w w' := by
  go_enter Try.func40, Try.ntmps40
  go_wp2_with fail
  refine bodyPost_ret (v := .agg #[.slice (some ⟨w.heap.size + 1, 0, none⟩) 1 1, .int .i64 i]) (by simp [results, Try.results40, go_sem]) rfl ⟨w.heap.size + 1, rfl, ?_, ((Old.refl w).alloc _).alloc _⟩
  refine ⟨_, _, rfl, Nat.le_refl _, by unfold maxLen; omega, fun _ => ⟨w.heap.size + 1, 0, _, rfl, Nat.le_succ _, heap_new _ _ _ (by simp), fun j u hu => ?_⟩⟩
  match j, hu with
  | 0, hu => simpa [rowVals, Cell.vals] using hu
  | 1, hu => simpa [rowVals, Cell.vals] using hu
  | 2, hu => simpa [rowVals, Cell.vals] using hu
  | j + 3, hu => simp [rowVals, Cell.vals] at hu
set_option maxRecDepth 100000 in
theorem is_run (va vb : Value) (a b : List Item) (e err : Int) (w : World) (ha : ItemsIs w va a) (hb : ItemsIs w vb b) :
    Calls Try.prog 41 #[va, .int .i64 e, .int .i64 err, vb] w fun x w' => x = .returned (.bool (sameItems a b && decide (e = err))) ∧ Old w w' := by
  have C := hide (eqItems va vb a b w ha hb)
  clear ha hb
  by_cases h : e = err
  · have h' : (e == err) = true := by simpa using h
    have H := hide h
    clear h
    go_enter Try.func41, Try.ntmps41
    go_wp2_with fail
    refine C.out.mono ?_
    rintro x w1 ⟨rfl, h1⟩
    cases hs : sameItems a b
    · go_wp2_with fail
      go_ret
      exact ⟨ret_bool (by simp [hs]), h1⟩
    · go_wp2_with fail
      go_ret
      exact ⟨ret_bool (by simp [hs, H.out]), h1⟩
  · have h' : (e == err) = false := by simpa using h
    have H := hide h
    clear h
    go_enter Try.func41, Try.ntmps41
    go_wp2_with fail
    refine C.out.mono ?_
    rintro x w1 ⟨rfl, h1⟩
    cases hs : sameItems a b
    · go_wp2_with fail
      go_ret
      exact ⟨ret_bool (by simp [hs]), h1⟩
    · go_wp2_with fail
      go_ret
      exact ⟨ret_bool (by simp [hs, H.out]), h1⟩
end Go.Proofs.Ytggknmagpcnkoaa
