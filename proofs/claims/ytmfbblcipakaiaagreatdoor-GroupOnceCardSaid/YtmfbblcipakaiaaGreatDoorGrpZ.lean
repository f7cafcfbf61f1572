/- The statements' own inputs: entries cut short. -/
import Derived.Test.YtmfbblcipakaiaaGreatDoorGrpX
import Derived.Test.YtmfbblcipakaiaaGreatDoorGrpE
import Derived.Test.YtmfbblcipakaiaaGreatDoorSame
/-! ### The statements' own inputs: entries cut short. -/
namespace Go.Proofs.YtmfbblcipakaiaaGreatDoor
open Go.RowKit

def cutS (s : ByteArray) : ByteArray := s.extract 0 (min (s.size : Int) 100).toNat
def cutC (c : Cell) : Cell := ⟨c.null, c.n, cutS c.s⟩
def shortRow (r : List Cell) : List Cell := (r.take 18).map cutC
theorem row_one {w : World} {g cap : Nat} {c : Cell} (hc : 1 ≤ cap) (hm : cap ≤ 1048576) (h0 : w.cell? ⟨g, 0, none⟩ = some (.bool c.null)) (h1 : w.cell? ⟨g, 1, none⟩ = some (.int .i64 c.n)) (h2 : w.cell? ⟨g, 2, none⟩ = some (.string c.s)) :
    RowIs w (.slice (some ⟨g, 0, none⟩) 1 cap) [c] := by
  refine ⟨_, _, rfl, hc, by unfold maxLen; omega, fun _ => ⟨g, 0, rfl, fun j u hu => ?_⟩⟩
  rw [rowVals_one] at hu
  match j, hu with
  | 0, hu => simp [Cell.vals] at hu; subst hu; exact h0
  | 1, hu => simp [Cell.vals] at hu; subst hu; exact h1
  | 2, hu => simp [Cell.vals] at hu; subst hu; exact h2
  | j + 3, hu => simp [Cell.vals] at hu
theorem short_next {r : List Cell} {k : Nat} (h : k < r.length) : (r.take (k + 1)).map cutC = (r.take k).map cutC ++ [⟨r[k].null, r[k].n, cutS r[k].s⟩] := by
  rw [List.take_succ_eq_append_getElem h, List.map_append]
  rfl

set_option maxRecDepth 100000 in
set_option maxHeartbeats 1000000 in
theorem short_run (v : Value) (r : List Cell) (w : World) (h : RowIs w v r) : Calls Tryz.prog 30 #[v] w (NewRow w (shortRow r)) := by
  obtain ⟨A, ca, rfl, hla, hma, ha⟩ := h.row
  unfold maxLen at hma
  clear h
  go_enter Tryz.func30, Tryz.ntmps30
  go_wp2_with fail
  go_loopw [3, 4] (fun o i wr => ∃ k : Nat, i = .int .i64 k ∧ k ≤ r.length ∧ k ≤ 18 ∧ Hid (wr.ownsRow w.heap.size 65 3 o ((r.take k).map cutC).length (rowVals ((r.take k).map cutC))) ∧ Old w wr) (fun _ i _ => r.length - (intOf i).toNat)
  case atStart => exact ⟨0, rfl, by omega, by omega, hide (World.ownsRow_nil _ _ _ _), Old.refl _⟩
  case round =>
    obtain ⟨k, rfl, hk, hk18, HOWN, hbl⟩ := hrel
    by_cases hlt : k < r.length
    · by_cases h18 : k < 18
      · obtain ⟨b1, o1, rfl, hc1⟩ := ha.resolve_left (by omega)
        obtain ⟨x0, x1, x2⟩ := hc1 k hlt
        have hx0 := Old.cell hbl x0
        have hx1 := Old.cell hbl x1
        have hx2 := Old.cell hbl x2
        have HN := hide (short_next hlt)
        have hlen : ((r.take k).map cutC).length + [(⟨r[k].null, r[k].n, cutS r[k].s⟩ : Cell)].length ≤ 4194304 := by simp; omega
        clear ha hc1 x0 x1 x2
        go_wp2_with (at_builtin; refine wpList_plain rfl (fun K hK => ?_); refine step_push_row _ _ _ rfl w.heap.size _ _ rfl (own_old HOWN.out (((Old.refl wr).alloc _).alloc _)) _ [⟨r[k].null, r[k].n, cutS r[k].s⟩] rfl (row_one (by omega) (by omega) (by go_simp) (by go_simp) (by unfold cutS; go_simp)) hlen ((hbl.alloc _).alloc _).size ?_; intro v' w4 own4 kept4; refine hK _ _ ?_; clear hK)
        have H5 := hide (kept4.old ((hbl.alloc _).alloc _) (Nat.le_refl _))
        clear kept4
        go_roundw
        case rel => exact ⟨k + 1, by go_num, by omega, by omega, hide (by rw [HN.out]; exact own4), H5.out⟩
        case measure => simp [intOf]; omega
      · have HS := HOWN.out
        rw [show r.take k = r.take 18 by rw [show k = 18 by omega]] at HS
        have H3 := hide HS
        clear HS
        go_wp2_with fail
        go_ret
        exact ⟨_, rfl, SlT.of_own H3.out, hbl⟩
    · have HS := HOWN.out
      rw [show r.take k = r.take 18 by rw [List.take_of_length_le (by omega), List.take_of_length_le (by omega)]] at HS
      have H3 := hide HS
      clear HS
      go_wp2_with fail
      go_ret
      exact ⟨_, rfl, SlT.of_own H3.out, hbl⟩


theorem shortRow_len (r : List Cell) : (shortRow r).length ≤ 18 := by simp [shortRow]; omega
theorem cutS_size (s : ByteArray) : (cutS s).size ≤ 100 := by
  unfold cutS
  rw [ByteArray.size_extract]
  omega
theorem shortRow_ok {r : List Cell} (h : ∀ c ∈ r, fit c.n) : KeyOk (shortRow r) where
  len := by have := shortRow_len r; omega
  fits := fun c hc => by
    obtain ⟨y, hy, rfl⟩ := List.mem_map.1 hc
    exact h y (List.mem_of_mem_take hy)
  short := fun c hc => by
    obtain ⟨y, hy, rfl⟩ := List.mem_map.1 hc
    exact cutS_size y.s
def cutE (e : Ent) : Ent := ⟨shortRow e.key, shortRow e.vals, e.w⟩
def cutEs (l : List Ent) : List Ent := (l.take 12).map cutE
theorem cutEs_len (l : List Ent) : (cutEs l).length ≤ 12 := by simp [cutEs]; omega
/-- entries whose numbers are int64s -/
def EFits (l : List Ent) : Prop := ∀ e ∈ l, (∀ c ∈ e.key, fit c.n) ∧ (∀ c ∈ e.vals, fit c.n) ∧ fit e.w
theorem cutEs_fine {l : List Ent} (h : EFits l) : ∀ e ∈ cutEs l, EntFine e := fun e he => by
  obtain ⟨y, hy, rfl⟩ := List.mem_map.1 he
  obtain ⟨h1, h2, h3⟩ := h y (List.mem_of_mem_take hy)
  exact ⟨shortRow_ok h1, h3, (shortRow_ok h2).fits⟩
theorem cutEs_next {l : List Ent} {k : Nat} (h : k < l.length) : (l.take (k + 1)).map cutE = (l.take k).map cutE ++ [⟨shortRow l[k].key, shortRow l[k].vals, l[k].w⟩] := by
  rw [List.take_succ_eq_append_getElem h, List.map_append]
  rfl

theorem entInfo : (Tryz.prog.info? 51).map (fun i => (i.zero, i.size, i.bytes)) = some (some (.agg #[.slice none 0 0, .slice none 0 0, .int .i64 0]), 3, 56) := by kernel_rfl
theorem step_push_ent {o : Oper} {a : Act} {K : Act → World → Prop} {Q : Exit → Act → World → Prop} (w : World) (s x : Operand)
    (ho : o.op = .call { callee := .builtin .append, args := #[s, x], argTypes := #[31, 31] })
    (base : Nat) (v : Value) (l : List Ent) (hs : a.eval s = v) (hown : EntsOwn 51 65 base w v l)
    (g cap : Nat) (kv vv : Value) (e : Ent) (hx : a.eval x = .slice (some ⟨g, 0, none⟩) 1 cap)
    (h0 : w.cell? ⟨g, 0, none⟩ = some kv) (h1 : w.cell? ⟨g, 1, none⟩ = some vv) (h2 : w.cell? ⟨g, 2, none⟩ = some (.int .i64 e.w)) (hk : SlT 65 base w kv e.key.length (rowVals e.key)) (hv : SlT 65 base w vv e.vals.length (rowVals e.vals))
    (hlen : l.length + 1 ≤ 2097152) (hbase : base ≤ w.heap.size)
    (h : ∀ v' w', EntsOwn 51 65 base w' v' (l ++ [e]) → Kept 51 base w w' → K (a.put o.dst v') w') : o.wp Tryz.prog a w K Q := by
  obtain ⟨i0, hi, hz0, hz1, hz2⟩ := info_parts entInfo
  obtain ⟨vs, e1, e2, e3⟩ := hown
  obtain ⟨A, cp, rfl, _⟩ := id hk
  obtain ⟨B, cq, rfl, _⟩ := id hv
  refine wp_append_own w s x 31 ho base 51 i0 (.agg #[.slice none 0 0, .slice none 0 0, .int .i64 0]) 3 56 Tryz.underlying31 hi hz0 hz1 hz2 rfl (by omega) v l.length (entVals vs l) hs e2
    ⟨g, 0, none⟩ 1 cap [.slice A e.key.length cp, .slice B e.vals.length cq, .int .i64 e.w] hx rfl ?_ ?_ (by unfold maxLen; omega) (by omega) hbase ?_
  · intro j u hu
    match j, hu with
    | 0, hu => simp at hu; subst hu; exact h0
    | 1, hu => simp at hu; subst hu; simpa [Addr.add] using h1
    | 2, hu => simp at hu; subst hu; simpa [Addr.add] using h2
    | j + 3, hu => simp at hu
  · intro u hu
    simp at hu
    rcases hu with rfl | rfl | rfl <;> rfl
  · intro v' w' own' hg _
    have hK := Kept.of_grown e2 hg hbase
    refine h v' w' ⟨vs ++ [(.slice A e.key.length cp, .slice B e.vals.length cq)], by simp [e1], ?_, ?_⟩ hK
    · rw [entVals_append vs l _ _ e1, List.length_append]
      exact own'
    · intro i hi hi'
      rcases Nat.lt_or_ge i l.length with hlt | hge
      · have : i < vs.length := by omega
        rw [List.getElem_append_left this]
        simp only [List.getElem_append_left hlt]
        exact ⟨hK.slT (e3 i hlt this).1 (by decide), hK.slT (e3 i hlt this).2 (by decide)⟩
      · have : i = l.length := by simp at hi; omega
        subst this
        simp only [List.getElem_append_right (Nat.le_refl _), Nat.sub_self, List.getElem_cons_zero]
        rw [List.getElem_append_right (by omega)]
        simp only [e1, Nat.sub_self, List.getElem_cons_zero]
        exact ⟨hK.slT hk (by decide), hK.slT hv (by decide)⟩
/-- new entries are handed back -/
def NewEnts (w0 : World) (l : List Ent) (e : Ending) (w' : World) : Prop :=
  ∃ v, e = .returned v ∧ EntsT 51 65 w0.heap.size w' v l ∧ Old w0 w'

set_option maxRecDepth 100000 in
set_option maxHeartbeats 2000000 in
theorem cut_run (v : Value) (l : List Ent) (w : World) (hl : EntsIs w v l) : Calls Tryz.prog 11 #[v] w (NewEnts w (cutEs l)) := by
  obtain ⟨A, ca, us, vs, rfl, hla, hma, hul, hvl, hur, hvr, ha⟩ := hl.open_
  unfold maxLen at hma
  have HUR := Lib.hid hur
  have HVR := Lib.hid hvr
  clear hur hvr hl
  go_enter Tryz.func11, Tryz.ntmps11
  go_wp2_with fail
  go_loopw [3, 4] (fun o i wr => ∃ k : Nat, i = .int .i64 k ∧ k ≤ l.length ∧ k ≤ 12 ∧ Hid (EntsOwn 51 65 w.heap.size wr o ((l.take k).map cutE)) ∧ Old w wr) (fun _ i _ => l.length - (intOf i).toNat)
  case atStart => exact ⟨0, rfl, by omega, by omega, hide (EntsOwn.nil_ _), Old.refl _⟩
  case round =>
    obtain ⟨k, rfl, hk, hk12, HO, hbl⟩ := hrel
    by_cases hlt : k < l.length
    · by_cases h12 : k < 12
      · have hku : k < us.length := by omega
        have hkv : k < vs.length := by omega
        obtain ⟨b1, o1, rfl, hc1⟩ := ha.resolve_left (by omega)
        obtain ⟨x0, x1, x2⟩ := hc1 k hlt hku hkv
        have hx0 : ∀ w', Old w w' → w'.cell? ⟨b1, o1 + k * 3, none⟩ = some us[k] := fun w' h => h.cell x0
        have hx1 : ∀ w', Old w w' → w'.cell? ⟨b1, o1 + k * 3 + 1, none⟩ = some vs[k] := fun w' h => h.cell x1
        have hx2 : ∀ w', Old w w' → w'.cell? ⟨b1, o1 + k * 3 + 2, none⟩ = some (.int .i64 l[k].w) := fun w' h => h.cell x2
        obtain ⟨q, hq⟩ : ∃ q, Hid (shortRow l[k].key = q) := ⟨_, hide rfl⟩
        obtain ⟨p, hp⟩ : ∃ p, Hid (shortRow l[k].vals = p) := ⟨_, hide rfl⟩
        have HC := hide (show ∀ w', Old w w' → Calls Tryz.prog 30 #[us[k]] w' fun e w2 => ∃ A cp, e = .returned (.slice A q.length cp) ∧ SlT 65 w.heap.size w2 (.slice A q.length cp) q.length (rowVals q) ∧ Old w' w2 from fun w' h => by
          have := (short_run _ _ _ ((HUR.out k hlt hku).old h)).mono fun _ _ hn => NewRow.form hn h.size
          rw [hq.out] at this
          exact this)
        have HD := hide (show ∀ w', Old w w' → Calls Tryz.prog 30 #[vs[k]] w' fun e w2 => ∃ A cp, e = .returned (.slice A p.length cp) ∧ SlT 65 w.heap.size w2 (.slice A p.length cp) p.length (rowVals p) ∧ Old w' w2 from fun w' h => by
          have := (short_run _ _ _ ((HVR.out k hlt hkv).old h)).mono fun _ _ hn => NewRow.form hn h.size
          rw [hp.out] at this
          exact this)
        obtain ⟨uk, huk⟩ : ∃ uk, us[k] = uk := ⟨_, rfl⟩
        obtain ⟨vk, hvk⟩ : ∃ vk, vs[k] = vk := ⟨_, rfl⟩
        rw [huk] at HC
        rw [hvk] at HD
        simp only [huk] at hx0
        simp only [hvk] at hx1
        have HN := hide (cutEs_next hlt)
        rw [hq.out, hp.out] at HN
        have hpush : ((l.take k).map cutE).length + 1 ≤ 2097152 := by simp; omega
        clear ha hc1 x0 x1 x2 hq hp huk hvk
        go_wp2_with fail
        go_region_held3 (fun w' => Old w w')
          (first | (exact Old.drew hbl) | (exact Old.alloc (by assumption) _) | (exact Old.trans (by assumption) (by assumption)) | (exact Kept.old (by assumption) (by assumption) (Nat.le_refl _)))
          (first
            | (go_at_call 30; (with_reducible refine (HC.out _ (by assumption)).mono ?_); rintro e w1 ⟨A1, c1, rfl, hr1, hb1⟩)
            | (go_at_call 30; (with_reducible refine (HD.out _ (by assumption)).mono ?_); rintro e w3 ⟨A2, c2, rfl, hr2, hb2⟩)
            | (refine step_push_ent _ _ _ rfl w.heap.size _ ((l.take k).map cutE) rfl (HO.out.old (Old.trans (Old.trans (Old.trans (Old.drew (Old.refl _)) hb1) hb2) (Old.alloc (Old.refl _) _))) _ _ (.slice A1 q.length c1) (.slice A2 p.length c2) ⟨q, p, l[k].w⟩ rfl (by go_simp) (by go_simp) (by go_simp) (SlT.old hr1 (Old.trans hb2 (Old.alloc (Old.refl _) _))) (SlT.old hr2 (Old.alloc (Old.refl _) _)) hpush (Below.size (w := w) (by assumption)) ?_; intro v' w2 own2 kept2)
            | (fail "none"))
        go_wp2_with fail
        go_roundw
        case rel => exact ⟨k + 1, by go_num, by omega, by omega, hide (by rw [HN.out]; exact own2), by assumption⟩
        case measure => simp [intOf]; omega
      · have HS := HO.out
        rw [show l.take k = l.take 12 by rw [show k = 12 by omega]] at HS
        have H3 := hide HS
        clear HS
        go_wp2_with fail
        go_ret
        exact ⟨_, rfl, H3.out.t, hbl⟩
    · have HS := HO.out
      rw [show l.take k = l.take 12 by rw [List.take_of_length_le (by omega), List.take_of_length_le (by omega)]] at HS
      have H3 := hide HS
      clear HS
      go_wp2_with fail
      go_ret
      exact ⟨_, rfl, H3.out.t, hbl⟩
end Go.Proofs.YtmfbblcipakaiaaGreatDoor

/-! ### The statements' small parts: entries and rows made, applied. -/
namespace Go.Proofs.YtmfbblcipakaiaaGreatDoor
open Go.RowKit

theorem delta_len {K S : Nat} {f g : Gf} {z : List Item} (h : Delta K S f g z) : ∀ x ∈ z, x.row.length ≤ K + (S + 1) := by
  intro x hx
  have h1 := wOf_mem h.ok.1 hx
  rw [h.wts] at h1
  have h2 := h.ok.2 x hx
  have key : ∀ f : Gf, rowW K S f x.row ≠ 0 → x.row.length ≤ K + (S + 1) := fun f hf => by
    unfold rowW at hf
    split at hf
    · rename_i hh
      rw [hh.2, rowOf_length]
      have : (x.row.take K).length ≤ K := by simp; omega
      omega
    · exact absurd rfl hf
  by_cases hg : rowW K S g x.row = 0
  · exact key f (by omega)
  · exact key g hg
/-- what changes, reckoned -/
theorem delta_eval {K S : Nat} {f : Gf} {l : List Ent} {want : List Item} (ks : List (List Cell)) (hn : ks.Nodup) (hk : ∀ k ∈ ks, k.length = K) (hs : ∀ e ∈ l, e.key ∈ ks) (he : appErr K S f l = 0) (hz : normOut (bothAll S f (gAdd f l) ks) = want) : Delta K S f (appF K S f l) want := by
  have hF : appF K S f l = gAdd f l := by unfold appF; rw [if_pos he]
  rw [hF, ← hz]
  exact (both_delta hn hk (fun k hk i => by
    unfold gAdd
    rw [tot_none (fun e he hh => hk (by rw [← hh]; exact hs e he))]
    omega)).2
theorem delta_err {K S : Nat} {f : Gf} {l : List Ent} (he : appErr K S f l ≠ 0) : Delta K S f (appF K S f l) [] := by
  have hF : appF K S f l = f := by unfold appF; rw [if_neg he]
  rw [hF]
  exact Delta.none_ K S f
theorem rows_eval {K S : Nat} {f : Gf} {want : List Item} (ks : List (List Cell)) (hn : ks.Nodup) (hk : ∀ k ∈ ks, k.length = K) (hs : ∀ k, f k 0 ≠ 0 → k ∈ ks) (hz : normOut (seenAll S f ks 1) = want) : RowsZ K S f want := by
  rw [← hz]
  exact (seen_rows hn hk hs).2
theorem eq_true (va vb : Value) (a : List Item) (w : World) (ha : ItemsIs w va a) (hb : ItemsIs w vb a) :
    Calls Tryz.prog 16 #[va, vb] w fun x w' => x = .returned (.bool true) ∧ Old w w' := by
  have := eqItems va vb a a w ha hb
  simpa [sameItems] using this

/-! ### slices of few elements -/
theorem ents_lit {w : World} {g n : Nat} {cs : Array Value} {T : TypeId} {f : Nat × Nat} (h : w.heap[g]? = some (.cells cs T f)) {vs : List (Value × Value)} {l : List Ent} (hl : vs.length = l.length) (hc : cs.toList = entVals vs l) (hn : n = l.length) (hm : n ≤ 1000) (hr : ∀ i, (h : i < l.length) → (h' : i < vs.length) → RowIs w vs[i].1 l[i].key ∧ RowIs w vs[i].2 l[i].vals) :
    EntsIs w (.slice (some ⟨g, 0, none⟩) n n) l := by
  subst hn
  refine ⟨vs, hl, ⟨_, _, rfl, Nat.le_refl _, by unfold maxLen; omega, fun _ => ⟨g, 0, rfl, fun j u hu => ?_⟩⟩, hr⟩
  rw [cell_of_heap h, Nat.zero_add]
  rw [← hc] at hu
  simpa using hu
theorem items_lit {w : World} {g n : Nat} {cs : Array Value} {T : TypeId} {f : Nat × Nat} (h : w.heap[g]? = some (.cells cs T f)) {vs : List Value} {l : List Item} (hl : vs.length = l.length) (hc : cs.toList = itemVals vs l) (hn : n = l.length) (hm : n ≤ 1000) (hr : ∀ i, (h : i < l.length) → (h' : i < vs.length) → RowIs w vs[i] l[i].row) :
    ItemsIs w (.slice (some ⟨g, 0, none⟩) n n) l := by
  subst hn
  refine ⟨vs, hl, ⟨_, _, rfl, Nat.le_refl _, by unfold maxLen; omega, fun _ => ⟨g, 0, rfl, fun j u hu => ?_⟩⟩, hr⟩
  rw [cell_of_heap h, Nat.zero_add]
  rw [← hc] at hu
  simpa using hu
theorem row_lit {w : World} {g n : Nat} {cs : Array Value} {T : TypeId} {f : Nat × Nat} (h : w.heap[g]? = some (.cells cs T f)) {r : List Cell} (hc : cs.toList = rowVals r) (hn : n = r.length) (hm : n ≤ 1000) : RowIs w (.slice (some ⟨g, 0, none⟩) n n) r := by
  subst hn
  refine ⟨_, _, rfl, Nat.le_refl _, by unfold maxLen; omega, fun _ => ⟨g, 0, rfl, fun j u hu => ?_⟩⟩
  rw [cell_of_heap h, Nat.zero_add]
  rw [← hc] at hu
  simpa using hu

/-! ### the statements' makers -/
def txC (s : ByteArray) : Cell := ⟨false, 0, s⟩
def nuC : Cell := ⟨true, 0, ⟨#[]⟩⟩
def enE (s : ByteArray) (n w : Int) : Ent := ⟨[txC s], [numCell n], w⟩
def noE (s : ByteArray) (w : Int) : Ent := ⟨[txC s], [nuC], w⟩
def rwI (s : ByteArray) (c t w : Int) : Item := ⟨[txC s, numCell c, numCell t], w⟩
/-- an entry is handed back -/
def EntPost (w : World) (e : Ent) (x : Ending) (w' : World) : Prop :=
  ∃ a b, x = .returned (.agg #[.slice (some ⟨a, 0, none⟩) 1 1, .slice (some ⟨b, 0, none⟩) 1 1, .int .i64 e.w]) ∧ RowIs w' (.slice (some ⟨a, 0, none⟩) 1 1) e.key ∧ RowIs w' (.slice (some ⟨b, 0, none⟩) 1 1) e.vals ∧ Old w w'
theorem heap3 (w : World) (a b c : Obj) : (((w.alloc a).alloc b).alloc c).heap[w.heap.size + 1]? = some b ∧ (((w.alloc a).alloc b).alloc c).heap[w.heap.size + 2]? = some c := by
  have h1 := (Old.alloc (Old.refl ((w.alloc a).alloc b)) c).heap (heap_alloc_at (w := w.alloc a) b)
  have h2 := heap_alloc_at (w := (w.alloc a).alloc b) c
  exact ⟨by simpa using h1, by simpa using h2⟩
theorem heap2 (w : World) (a b : Obj) : ((w.alloc a).alloc b).heap[w.heap.size + 1]? = some b := by
  have h2 := heap_alloc_at (w := w.alloc a) b
  simpa using h2
set_option maxRecDepth 100000 in
theorem entry_run (s : ByteArray) (n wt : Int) (w : World) : Calls Tryz.prog 28 #[.string s, .int .i64 n, .int .i64 wt] w (EntPost w (enE s n wt)) := by
  go_enter Tryz.func28, Tryz.ntmps28
  go_wp2_with fail
  refine bodyPost_ret (v := .agg #[.slice (some ⟨w.heap.size + 1, 0, none⟩) 1 1, .slice (some ⟨w.heap.size + 2, 0, none⟩) 1 1, .int .i64 wt]) (by simp [results, Tryz.results28, go_sem]) rfl ?_
  exact ⟨_, _, rfl, row_lit (heap3 _ _ _ _).1 rfl rfl (by omega), row_lit (heap3 _ _ _ _).2 rfl rfl (by omega), (((Old.refl w).alloc _).alloc _).alloc _⟩
set_option maxRecDepth 100000 in
theorem no_run (s : ByteArray) (wt : Int) (w : World) : Calls Tryz.prog 29 #[.string s, .int .i64 wt] w (EntPost w (noE s wt)) := by
  go_enter Tryz.func29, Tryz.ntmps29
  go_wp2_with fail
  refine bodyPost_ret (v := .agg #[.slice (some ⟨w.heap.size + 1, 0, none⟩) 1 1, .slice (some ⟨w.heap.size + 2, 0, none⟩) 1 1, .int .i64 wt]) (by simp [results, Tryz.results29, go_sem]) rfl ?_
  exact ⟨_, _, rfl, row_lit (heap3 _ _ _ _).1 rfl rfl (by omega), row_lit (heap3 _ _ _ _).2 rfl rfl (by omega), (((Old.refl w).alloc _).alloc _).alloc _⟩
/-- an item is handed back -/
def ItPost (w : World) (i : Item) (x : Ending) (w' : World) : Prop :=
  ∃ a n, x = .returned (.agg #[.slice (some ⟨a, 0, none⟩) n n, .int .i64 i.w]) ∧ RowIs w' (.slice (some ⟨a, 0, none⟩) n n) i.row ∧ Old w w'
set_option maxRecDepth 100000 in
theorem rw_run (s : ByteArray) (c t wt : Int) (w : World) : Calls Tryz.prog 49 #[.string s, .int .i64 c, .int .i64 t, .int .i64 wt] w (ItPost w (rwI s c t wt)) := by
  go_enter Tryz.func49, Tryz.ntmps49
  go_wp2_with fail
  refine bodyPost_ret (v := .agg #[.slice (some ⟨w.heap.size + 1, 0, none⟩) 3 3, .int .i64 wt]) (by simp [results, Tryz.results49, go_sem]) rfl ?_
  exact ⟨_, _, rfl, row_lit (heap2 _ _ _) rfl rfl (by omega), ((Old.refl w).alloc _).alloc _⟩

/-- an Apply, and what it is to answer -/
def ApdPost (w : World) (g bm K S m : Nat) (f : Gf) (l : List Ent) (x : Ending) (w' : World) : Prop :=
  x = .returned (.bool true) ∧ (∃ B', GIs w' g bm K S (m + l.length) (appF K S f l) B') ∧ Chg (fun b => b = bm) w w'
theorem EntsIs.turn {w w' : World} {v : Value} {l : List Ent} {bm : Nat} (h : EntsIs w v l) (c : Chg (fun b => b = bm) w w') {P : Program} {k n : Nat} {M : ByteArray → Option Value} (hm : MapIs P k w bm n M) : EntsIs w' v l :=
  h.chg c (fun b cs T f hh e => by subst e; exact map_ne hh hm rfl)
theorem ItemsIs.turn {w w' : World} {v : Value} {l : List Item} {bm : Nat} (h : ItemsIs w v l) (c : Chg (fun b => b = bm) w w') {P : Program} {k n : Nat} {M : ByteArray → Option Value} (hm : MapIs P k w bm n M) : ItemsIs w' v l :=
  h.chg c (fun b cs T f hh e => by subst e; exact map_ne hh hm rfl)
theorem ItemsT.turn {tI tC lo : Nat} {w w' : World} {v : Value} {l : List Item} {bm : Nat} (h : ItemsT tI tC lo w v l) (c : Chg (fun b => b = bm) w w') {P : Program} {k n : Nat} {M : ByteArray → Option Value} (hm : MapIs P k w bm n M) : ItemsT tI tC lo w' v l :=
  h.chg c (fun b cs T f _ hh e => by subst e; exact map_ne hh hm rfl)
set_option maxRecDepth 100000 in
set_option maxHeartbeats 1000000 in
theorem applied_run (g bm K S m : Nat) (f : Gf) (B : Nat → Prop) (v wv : Value) (l : List Ent) (want : List Item) (ev : Int) (w : World) (hG : GIs w g bm K S m f B) (hKK : K ≤ 64) (hS : S ≤ 64) (hm : m ≤ 20000) (hl : EntsIs w v l) (hn : l.length ≤ 5000) (hfine : ∀ e ∈ l, EntFine e) (hp : PowTab w)
    (hw : ItemsIs w wv want) (hd : Delta K S f (appF K S f l) want) (he : appErr K S f l = ev) :
    Calls Tryz.prog 48 #[.pointer (some ⟨g, 0, none⟩), .int .i64 ev, v, wv] w (ApdPost w g bm K S m f l) := by
  have CA := hide (apply_run g bm K S m f B v l w hG hKK hS hm hl hn hfine hp)
  obtain ⟨M, hM⟩ := hG.map
  have HM := hide hM.map
  have HW := hide hw
  have HD := hide hd
  have HE := hide he
  obtain ⟨A, ca, -, -, rfl, -⟩ := hl.open_
  obtain ⟨A2, ca2, -, rfl, -⟩ := hw.open_
  clear hG hM hl hfine hp hw hd he
  go_enter Tryz.func48, Tryz.ntmps48
  go_wp2_with fail
  refine CA.out.mono ?_
  rintro e w1 ⟨h1, out, z, rfl, -, -, hit, hz, -, hG1, hc⟩
  have hzw : z = want := hz.unique HD.out
  subst hzw
  rw [HE.out]
  have CE := hide (eq_true out _ z w1 hit.is (HW.out.turn hc HM.out))
  have HG1 := hide hG1
  have HC := hide hc
  obtain ⟨vs0, -, ⟨Ao, co, rfl, -⟩, -⟩ := id hit
  clear hit hz hG1 hc
  go_wp2_with fail
  refine CE.out.mono ?_
  rintro e w2 ⟨rfl, h2⟩
  go_wp2_with fail
  go_ret
  exact ⟨rfl, ⟨_, HG1.out.old h2⟩, HC.out.step h2⟩
end Go.Proofs.YtmfbblcipakaiaaGreatDoor

/-! ### What the chapter's examples come to. -/
namespace Go.Proofs.YtmfbblcipakaiaaGreatDoor
open Go.RowKit

def sA : ByteArray := ⟨#[97]⟩
def sB : ByteArray := ⟨#[98]⟩
def most : Int := 9223372036854775807
def wl1 : List Ent := [enE sA 5 1, enE sA 2 1, noE sB 1]
def wl2 : List Ent := [enE sA 5 (-1), enE sA 5 1]
def wl3 : List Ent := [noE sB (-1)]
def wl4 : List Ent := [enE sA 2 (-1), enE sA 9 1]
def wl5 : List Ent := [enE sA most 1]
def wl6 : List Ent := [enE sA most 1, enE sA most (-1)]
def wl7 : List Ent := [⟨[⟨false, 0, ⟨#[]⟩⟩, ⟨false, 0, ⟨#[]⟩⟩], [⟨false, 0, ⟨#[]⟩⟩], 1⟩]
def ww1 : List Item := [rwI sA 2 7 1, rwI sB 1 0 1]
def ww3 : List Item := [rwI sB 1 0 (-1)]
def ww4 : List Item := [rwI sA 2 7 (-1), rwI sA 2 14 1]
def wwr : List Item := [rwI sA 2 14 1]
def wkeys : List (List Cell) := [[txC sA], [txC sB]]
theorem wkeys_nodup : wkeys.Nodup := by decide
theorem wkeys_len : ∀ k ∈ wkeys, k.length = 1 := by decide
/-- an Apply of the examples goes well -/
structure WOk (L l : List Ent) (want : List Item) : Prop where
  err : appErr 1 1 (gAdd gZero L) l = 0
  delta : Delta 1 1 (gAdd gZero L) (appF 1 1 (gAdd gZero L) l) want
  next : appF 1 1 (gAdd gZero L) l = gAdd gZero (L ++ l)
theorem WOk.of {L l : List Ent} {want : List Item} (he : appErr 1 1 (gAdd gZero L) l = 0) (hs : ∀ e ∈ l, e.key ∈ wkeys) (hz : normOut (bothAll 1 (gAdd gZero L) (gAdd (gAdd gZero L) l) wkeys) = want) : WOk L l want :=
  ⟨he, delta_eval wkeys wkeys_nodup wkeys_len hs he hz, by unfold appF; rw [if_pos he, gAdd_append]⟩
theorem wok1 : WOk [] wl1 ww1 := .of (by kernel_rfl) (by decide) (by kernel_rfl)
theorem wok2 : WOk wl1 wl2 [] := .of (by kernel_rfl) (by decide) (by kernel_rfl)
theorem wok3 : WOk (wl1 ++ wl2) wl3 ww3 := .of (by kernel_rfl) (by decide) (by kernel_rfl)
theorem wok4 : WOk (wl1 ++ wl2 ++ wl3) wl4 ww4 := .of (by kernel_rfl) (by decide) (by kernel_rfl)
def wL4 : List Ent := wl1 ++ wl2 ++ wl3 ++ wl4
theorem wok6 : WOk wL4 wl6 [] := .of (by kernel_rfl) (by decide) (by kernel_rfl)
theorem wbad5 : appErr 1 1 (gAdd gZero wL4) wl5 = 50 := by kernel_rfl
theorem wbad7 : appErr 1 1 (gAdd gZero (wL4 ++ wl6)) wl7 = 2 := by kernel_rfl
theorem wrows_cov {L : List Ent} (h : ∀ e ∈ L, e.key ∈ wkeys) : ∀ k, gAdd gZero L k 0 ≠ 0 → k ∈ wkeys := fun k hk => by
  by_cases hm : ∃ e ∈ L, e.key = k
  · obtain ⟨e, he, rfl⟩ := hm
    exact h e he
  · exact absurd (by
      unfold gAdd
      rw [tot_none (fun e he hh => hm ⟨e, he, hh⟩)]
      rfl) hk
theorem wrows4 : RowsZ 1 1 (gAdd gZero wL4) wwr := rows_eval wkeys wkeys_nodup wkeys_len (wrows_cov (by decide)) (by kernel_rfl)
theorem wrows6 : RowsZ 1 1 (gAdd gZero (wL4 ++ wl6)) wwr := rows_eval wkeys wkeys_nodup wkeys_len (wrows_cov (by decide)) (by kernel_rfl)
theorem tx_ok (s : ByteArray) (h : s.size ≤ 100) : KeyOk [txC s] := ⟨by simp, by simp [txC, fit], by simpa [txC] using h⟩
theorem en_fine (s : ByteArray) (n w : Int) (h : s.size ≤ 100) (hn : fit n) (hw : fit w) : EntFine (enE s n w) := ⟨tx_ok s h, hw, by simpa [enE, numCell] using hn⟩
theorem no_fine (s : ByteArray) (w : Int) (h : s.size ≤ 100) (hw : fit w) : EntFine (noE s w) := ⟨tx_ok s h, hw, by simp [noE, nuC, fit]⟩
theorem wfine1 : ∀ e ∈ wl1, EntFine e := by
  intro e he
  simp only [wl1, List.mem_cons, List.not_mem_nil, or_false] at he
  rcases he with rfl | rfl | rfl
  · exact en_fine _ _ _ (by decide) (by decide) (by decide)
  · exact en_fine _ _ _ (by decide) (by decide) (by decide)
  · exact no_fine _ _ (by decide) (by decide)
theorem wfine2 : ∀ e ∈ wl2, EntFine e := by
  intro e he
  simp only [wl2, List.mem_cons, List.not_mem_nil, or_false] at he
  rcases he with rfl | rfl <;> exact en_fine _ _ _ (by decide) (by decide) (by decide)
theorem wfine3 : ∀ e ∈ wl3, EntFine e := by
  intro e he
  simp only [wl3, List.mem_cons, List.not_mem_nil, or_false] at he
  subst he
  exact no_fine _ _ (by decide) (by decide)
theorem wfine4 : ∀ e ∈ wl4, EntFine e := by
  intro e he
  simp only [wl4, List.mem_cons, List.not_mem_nil, or_false] at he
  rcases he with rfl | rfl <;> exact en_fine _ _ _ (by decide) (by decide) (by decide)
theorem wfine5 : ∀ e ∈ wl5, EntFine e := by
  intro e he
  simp only [wl5, List.mem_cons, List.not_mem_nil, or_false] at he
  subst he
  exact en_fine _ _ _ (by decide) (by decide) (by decide)
theorem wfine6 : ∀ e ∈ wl6, EntFine e := by
  intro e he
  simp only [wl6, List.mem_cons, List.not_mem_nil, or_false] at he
  rcases he with rfl | rfl <;> exact en_fine _ _ _ (by decide) (by decide) (by decide)
theorem wfine7 : ∀ e ∈ wl7, EntFine e := by
  intro e he
  simp only [wl7, List.mem_cons, List.not_mem_nil, or_false] at he
  subst he
  exact ⟨⟨by decide, by simp [fit], by decide⟩, by decide, by simp [fit]⟩

/-! ### lists of one to three entries, of one or two items, as they are built -/
section
variable {w : World} {g a1 b1 a2 b2 a3 b3 n1 n2 : Nat} {T : TypeId} {f : Nat × Nat} {e1 e2 e3 : Ent} {i1 i2 : Item}
theorem ents1 (h : w.heap[g]? = some (.cells #[.slice (some ⟨a1, 0, none⟩) 1 1, .slice (some ⟨b1, 0, none⟩) 1 1, .int .i64 e1.w] T f))
    (k1 : RowIs w (.slice (some ⟨a1, 0, none⟩) 1 1) e1.key) (v1 : RowIs w (.slice (some ⟨b1, 0, none⟩) 1 1) e1.vals) : EntsIs w (.slice (some ⟨g, 0, none⟩) 1 1) [e1] :=
  ents_lit h (vs := [(.slice (some ⟨a1, 0, none⟩) 1 1, .slice (some ⟨b1, 0, none⟩) 1 1)]) rfl rfl rfl (by omega) (fun i hi hi' => by
    match i, hi with
    | 0, _ => exact ⟨k1, v1⟩)
theorem ents2 (h : w.heap[g]? = some (.cells #[.slice (some ⟨a1, 0, none⟩) 1 1, .slice (some ⟨b1, 0, none⟩) 1 1, .int .i64 e1.w, .slice (some ⟨a2, 0, none⟩) 1 1, .slice (some ⟨b2, 0, none⟩) 1 1, .int .i64 e2.w] T f))
    (k1 : RowIs w (.slice (some ⟨a1, 0, none⟩) 1 1) e1.key) (v1 : RowIs w (.slice (some ⟨b1, 0, none⟩) 1 1) e1.vals) (k2 : RowIs w (.slice (some ⟨a2, 0, none⟩) 1 1) e2.key) (v2 : RowIs w (.slice (some ⟨b2, 0, none⟩) 1 1) e2.vals) : EntsIs w (.slice (some ⟨g, 0, none⟩) 2 2) [e1, e2] :=
  ents_lit h (vs := [(.slice (some ⟨a1, 0, none⟩) 1 1, .slice (some ⟨b1, 0, none⟩) 1 1), (.slice (some ⟨a2, 0, none⟩) 1 1, .slice (some ⟨b2, 0, none⟩) 1 1)]) rfl rfl rfl (by omega) (fun i hi hi' => by
    match i, hi with
    | 0, _ => exact ⟨k1, v1⟩
    | 1, _ => exact ⟨k2, v2⟩)
theorem ents3 (h : w.heap[g]? = some (.cells #[.slice (some ⟨a1, 0, none⟩) 1 1, .slice (some ⟨b1, 0, none⟩) 1 1, .int .i64 e1.w, .slice (some ⟨a2, 0, none⟩) 1 1, .slice (some ⟨b2, 0, none⟩) 1 1, .int .i64 e2.w, .slice (some ⟨a3, 0, none⟩) 1 1, .slice (some ⟨b3, 0, none⟩) 1 1, .int .i64 e3.w] T f))
    (k1 : RowIs w (.slice (some ⟨a1, 0, none⟩) 1 1) e1.key) (v1 : RowIs w (.slice (some ⟨b1, 0, none⟩) 1 1) e1.vals) (k2 : RowIs w (.slice (some ⟨a2, 0, none⟩) 1 1) e2.key) (v2 : RowIs w (.slice (some ⟨b2, 0, none⟩) 1 1) e2.vals) (k3 : RowIs w (.slice (some ⟨a3, 0, none⟩) 1 1) e3.key) (v3 : RowIs w (.slice (some ⟨b3, 0, none⟩) 1 1) e3.vals) : EntsIs w (.slice (some ⟨g, 0, none⟩) 3 3) [e1, e2, e3] :=
  ents_lit h (vs := [(.slice (some ⟨a1, 0, none⟩) 1 1, .slice (some ⟨b1, 0, none⟩) 1 1), (.slice (some ⟨a2, 0, none⟩) 1 1, .slice (some ⟨b2, 0, none⟩) 1 1), (.slice (some ⟨a3, 0, none⟩) 1 1, .slice (some ⟨b3, 0, none⟩) 1 1)]) rfl rfl rfl (by omega) (fun i hi hi' => by
    match i, hi with
    | 0, _ => exact ⟨k1, v1⟩
    | 1, _ => exact ⟨k2, v2⟩
    | 2, _ => exact ⟨k3, v3⟩)
theorem items1 (h : w.heap[g]? = some (.cells #[.slice (some ⟨a1, 0, none⟩) n1 n1, .int .i64 i1.w] T f)) (k1 : RowIs w (.slice (some ⟨a1, 0, none⟩) n1 n1) i1.row) : ItemsIs w (.slice (some ⟨g, 0, none⟩) 1 1) [i1] :=
  items_lit h (vs := [.slice (some ⟨a1, 0, none⟩) n1 n1]) rfl rfl rfl (by omega) (fun i hi hi' => by
    match i, hi with
    | 0, _ => exact k1)
theorem items2 (h : w.heap[g]? = some (.cells #[.slice (some ⟨a1, 0, none⟩) n1 n1, .int .i64 i1.w, .slice (some ⟨a2, 0, none⟩) n2 n2, .int .i64 i2.w] T f)) (k1 : RowIs w (.slice (some ⟨a1, 0, none⟩) n1 n1) i1.row) (k2 : RowIs w (.slice (some ⟨a2, 0, none⟩) n2 n2) i2.row) : ItemsIs w (.slice (some ⟨g, 0, none⟩) 2 2) [i1, i2] :=
  items_lit h (vs := [.slice (some ⟨a1, 0, none⟩) n1 n1, .slice (some ⟨a2, 0, none⟩) n2 n2]) rfl rfl rfl (by omega) (fun i hi hi' => by
    match i, hi with
    | 0, _ => exact k1
    | 1, _ => exact k2)
end
end Go.Proofs.YtmfbblcipakaiaaGreatDoor
