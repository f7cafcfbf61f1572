/- The iterator over the values of the groups' map. -/
import Derived.RangeFuncNested
import Derived.RangeFuncBound
import Derived.RangeFuncCalls
import Derived.RangeFuncLeaves
import Derived.RangeFuncWrites
import Derived.Sort.MapsRangeIn
import Derived.Shelf.Abstract
import Derived.Shelf.RegionOpen
import Derived.WalkKit
import Derived.OwnWalkIn
import Derived.TacticsInMore
import Derived.LoopNIn
import Derived.LoopIn
import Derived.RegionIn
import Derived.BigRegionIn
import Derived.Test.YtmfbblcipakaiaaGreatDoorGrpT
import Derived.Shelf.SlMaps.Clone
import Derived.Test.YtmfbblcipakaiaaGreatDoorGrpD
import Derived.Test.YtmfbblcipakaiaaGreatDoorSame
/-! ### The iterator over the values of the groups' map. -/
/-! ### The iterator over the values of the groups' map. -/
namespace Go.Proofs.YtmfbblcipakaiaaGreatDoor
open Go.RowKit Go.Shelf Go.Maps Go.Sort
attribute [local go_sem] Oper.semAt_some

/-- an entry of the map: its key, and the value that it has there -/
structure GV (M : ByteArray → Option Value) where
  key : ByteArray
  c : (Option Addr × Nat × Nat) × (Option Addr × Nat × Nat)
  has : M key = some (mkSt c)

set_option maxRecDepth 100000 in
set_option maxHeartbeats 4000000 in
theorem values_it (n : Nat) (hn1 : 1 ≤ n) (Bm b nn : Nat) (M : ByteArray → Option Value) (w : World) (hM : MapIs Tryz.prog 9 w b nn M) (hBm : w.heap[Bm]? = some (.cells #[.map (some b)] 54 (0, 0))) (hinv : ∀ s v, M s = some v → ∃ c, v = mkSt c) :
    SeqStopsK Fence.wide n Tryz.prog 71 #[.pointer (some ⟨Bm, 0, none⟩)] (fun x : GV M => #[mkSt x.c]) KeepsWalks
      (fun xs => (xs.map GV.key).Nodup ∧ ∀ s v, M s = some v → s ∈ xs.map GV.key) (fun _ => True) nn w := fun lp Iv Ix W hW hJ hJx hY h0 => by
  obtain ⟨D, hown0, hHas⟩ := hM
  have hown : W.ownsMap Tryz.prog 9 rawR b nn D := by
    have hbl := hown0.lt
    obtain ⟨es, clock, hb, r⟩ := hown0
    exact ⟨es, clock, (hW.block b hbl).trans hb, r⟩
  have hsn := hown.size_le
  have HHAS := hide hHas
  have HINV := hide hinv
  have HY := hide hY
  have m1 : W.cell? ⟨Bm, 0, none⟩ = some (.map (some b)) := (cell_of_heap ((hW.block Bm (block_lt hBm)).trans hBm)).trans rfl
  clear hHas hinv hY hown0
  refine callsIn_of_wp Tryz.func71 rfl trivial ?_ rfl
  simp only [Tryz.ntmps71, List.size_toArray, List.length_cons, List.length_nil, Nat.reduceAdd, Nat.reduceSub, Array.replicate_succ, Array.replicate_zero, List.push_toArray, List.append_toArray, List.nil_append, List.cons_append]
  gi_wp2_with (first
    | (gi_at_range; refine wpListIn_range_own _ rfl _ 54 rfl 9 81 (string_keyed undStr) Tryz.underlying54 rawR b nn D rfl hown ?_; intro w0 hrg0 hg0 hs0)
    | gi_in)

  gi_loopw [] (fun wr => ∃ (left : Lit → Bool) (cnt : Nat) (ps : List (GV M)), wr.ranges Tryz.prog 9 rawR b W.heap.size nn D left cnt ∧ ps.length + cnt ≤ Maps.size D ∧ Hid ((ps.map GV.key).Nodup) ∧ Hid (∀ s : ByteArray, left (.string s.data.toList) = true ↔ (Maps.has D (.string s.data.toList) = true ∧ s ∉ ps.map GV.key)) ∧ Hid (Iv ps wr))
    (fun wr => wr.rangeLeft b W.heap.size)
  case atStart =>
    exact ⟨_, _, [], hrg0, by simp, hide (by simp), hide (by simp), hide (hJ _ W w0 none h0 hg0 (fun r e => by cases e))⟩
  case round =>
    obtain ⟨left, cnt, ps, hrg, hcs, HND, HLF, HJs⟩ := hrel
    gi_wp2_with (first
      | (gi_at_next; refine wpListIn_next_ranges _ rfl _ rfl 9 (string_keyed undStr) rawR (fun s : ByteArray => Value.string s) (fun v : Value => v) (fun key kl hk => by obtain ⟨x, hx, _⟩ := str_inv undStr hk; exact ⟨x, hx⟩) (fun v y hv => ⟨v, rfl⟩) b W.heap.size nn _ _ _ rfl hrg ?_ ?_)
      | gi_in)
    · intro hc0 hl0
      gi_wp2
      go_end0
      refine ⟨⟨_, rfl⟩, .inl ⟨ps, ⟨HND.out, fun s v hs => ?_⟩, HJs.out⟩⟩
      have h := HLF.out s
      rw [hl0, HHAS.out.has, hs] at h
      exact Classical.byContradiction fun hn => by simp [hn] at h
    · intro x v kl yd yp w2 cnt2 hkey hlk hv hat hrg2 hlt hg2 hs2 hen
      obtain ⟨x', ex, rfl, _⟩ := str_inv undStr hkey
      obtain rfl : x = x' := by injection ex
      have hyd : yd = .held v := by
        simp only [rawR, Option.some.injEq, Prod.mk.injEq] at hv
        exact hv.1.symm
      subst hyd
      have hMs : M x = some v := by
        have hh : Maps.has D (.string x.data.toList) = true := Maps.has_true_of_atKey hat
        rw [HHAS.out.has] at hh
        obtain ⟨u, hu⟩ := Option.isSome_iff_exists.1 hh
        have h4 := HHAS.out.at_ x u hu .nil
        rw [hat .nil] at h4
        injection h4 with h4
        rw [hu, h4]
      obtain ⟨c, rfl⟩ := HINV.out x v hMs
      obtain ⟨⟨A1, n1, c1⟩, ⟨A2, n2, c2⟩⟩ := c
      have hnx : x ∉ ps.map GV.key := ((HLF.out x).1 hlk).2
      have hJ2 : Iv ps w2 := hJ _ wr w2 (some W.heap.size) HJs.out hg2 (fun r e => by cases e; exact ⟨Nat.le_refl _, hrg.iter_walk⟩)
      have hJ3 : ∀ o, Iv ps (w2.alloc o) := fun o => hJ _ w2 _ none hJ2 (World.grownBy_alloc w2 o none) (fun r e => by cases e)
      have HGO := hide (fun o => HY.out ps ⟨x, ((A1, n1, c1), (A2, n2, c2)), hMs⟩ (w2.alloc o) (hJ3 o) (by omega))
      have HND2 := hide (show ((ps ++ [⟨x, ((A1, n1, c1), (A2, n2, c2)), hMs⟩] : List (GV M)).map GV.key).Nodup by
        rw [List.map_append, List.nodup_append]
        exact ⟨HND.out, by simp, fun a ha b hb => by
          have : b = x := by simpa using hb
          subst this
          rintro rfl
          exact hnx ha⟩)
      have hW2 : W.heap.size < w2.heap.size := by have := hrg2.lt; omega
      have HRG := hide hrg
      have HRG2 := hide hrg2
      have HLT := hide hlt
      clear hs2 hrg hkey hv hat hJ2 hJ3 hlt hrg2 hg2
      obtain ⟨fn, tmps, assign, body, hy, hR⟩ := HGO.out (.cells #[.slice A1 n1 c1, .slice A2 n2 c2] 81)
      have hy' : (Instr.yield lp #[Value.agg #[.slice A1 n1 c1, .slice A2 n2 c2]]).run Tryz.prog (w2.alloc (.cells #[.slice A1 n1 c1, .slice A2 n2 c2] 81)) = _ := hy
      clear hy
      gi_wp2
      refine hR.mono ?_
      rintro e W3 (⟨rfl, hJ3, hk3⟩ | ⟨rfl, hJx3⟩)
      · have HRG3 := hide ((HRG2.out.alloc (.cells #[.slice A1 n1 c1, .slice A2 n2 c2] 81)).of_walks hk3)
        clear hR hy'
        gi_wp2
        go_roundw
        case rel => exact ⟨_, cnt2, ps ++ [⟨x, ((A1, n1, c1), (A2, n2, c2)), hMs⟩], HRG3.out, by have := HLT.out; simp; omega, HND2, hide (fun s => by
          have h := HLF.out s
          rw [List.map_append, List.mem_append]
          show (left (.string s.data.toList) && !(Lit.string s.data.toList).sameKey (.string x.data.toList)) = true ↔ _
          have hsk : (Lit.string s.data.toList).sameKey (.string x.data.toList) = (s.data.toList == x.data.toList) := rfl
          rw [hsk]
          by_cases hsx : s = x
          · subst hsx
            simp
          · have : (s.data.toList == x.data.toList) = false := beq_eq_false_iff_ne.2 (fun hh => hsx (bytes_ext hh))
            rw [this]
            simp only [Bool.not_false, Bool.and_true, h]
            simp [hsx]), hide hJ3⟩
        case measure => rw [HRG3.out.left_eq, HRG.out.left_eq]; exact HLT.out
      · clear hR hy'
        gi_wp2
        refine bodyPost_ret (results_none rfl _ _ _) rfl ?_
        exact ⟨⟨_, rfl⟩, .inr ⟨_, trivial, hJx3⟩⟩
end Go.Proofs.YtmfbblcipakaiaaGreatDoor

/-! ### The walk of Rows. -/
namespace Go.Proofs.YtmfbblcipakaiaaGreatDoor
open Go.RowKit Go.Shelf Go.Maps
attribute [local go_sem] Oper.semAt_some

set_option maxRecDepth 100000 in
theorem values_run (mb : Option Nat) (w : World) : Calls Tryz.prog 47 #[.map mb] w fun e w' => e = .returned (.func (.func 71) #[] #[.pointer (some ⟨w.heap.size, 0, none⟩)]) ∧ w' = w.alloc (.cells #[.map mb] 54) := by
  go_enter Tryz.func47, Tryz.ntmps47
  go_wp2_with fail
  go_ret
  exact ⟨rfl, rfl⟩

theorem nodup_len_c {α : Type} : ∀ {a b : List α}, a.Nodup → (∀ x ∈ a, x ∈ b) → a.length ≤ b.length := by
  intro a b h1 h2
  haveI : DecidableEq α := fun a b => Classical.propDecidable (a = b)
  induction a generalizing b with
  | nil => simp
  | cons x a ih =>
    obtain ⟨h3, h4⟩ := List.nodup_cons.1 h1
    have hx : x ∈ b := h2 x (by simp)
    have := ih (b := b.erase x) h4 (fun y hy => by
      have hne : y ≠ x := by rintro rfl; exact h3 hy
      exact (List.mem_erase_of_ne hne).2 (h2 y (by simp [hy])))
    have e := List.length_erase_of_mem hx
    have : 0 < b.length := List.length_pos_of_mem hx
    simp only [List.length_cons]
    omega
/-- a map has no more keys than it may have -/
theorem MapIs.count {P : Program} {k : TypeId} {w : World} {b n : Nat} {m : ByteArray → Option Value} (h : MapIs P k w b n m) {ss : List ByteArray} (hn : ss.Nodup) (hs : ∀ s ∈ ss, ∃ v, m s = some v) : ss.length ≤ n := by
  obtain ⟨D, h1, h2⟩ := h
  have hsz := h1.size_le
  obtain ⟨es, rfl⟩ := h1.isMap
  have hl := nodup_len_c (a := ss.map fun s => Lit.string s.data.toList) (b := es.map (·.1)) (by
    rw [List.Nodup, List.pairwise_map]
    exact hn.imp (fun h e => h (str_ext e))) (fun x hx => by
    obtain ⟨s, hs1, rfl⟩ := List.mem_map.1 hx
    obtain ⟨v, hv⟩ := hs s hs1
    have hh : Maps.has (.map es : DW) (.string s.data.toList) = true := by rw [h2.has, hv]; rfl
    rw [Maps.has_eq] at hh
    obtain ⟨p, hp, hk⟩ := List.any_eq_true.1 hh
    exact List.mem_map.2 ⟨p, hp, WideAt.sameKey_eq hk⟩)
  rw [List.length_map, List.length_map] at hl
  rw [Maps.size_eq] at hsz
  omega
/-- what Rows hands back -/
def RowsPost (w : World) (K S m : Nat) (f : Gf) (e : Ending) (w' : World) : Prop :=
  ∃ (v : Value) (z : List Item), e = .returned v ∧ ItemsT 60 65 w.heap.size w' v z ∧ RowsZ K S f z ∧ z.length ≤ m ∧ Old w w'
/-- the key of an entry -/
noncomputable def keyAt {w : World} {bm n K S : Nat} {f : Gf} {L : List Cell → Bool} {B : Nat → Prop} {M : ByteArray → Option Value} (h : GMap w bm n K S f L B M) (x : GV M) : List Cell := Classical.choose (h.names x.key _ x.has)
theorem keyAt_spec {w : World} {bm n K S : Nat} {f : Gf} {L : List Cell → Bool} {B : Nat → Prop} {M : ByteArray → Option Value} (h : GMap w bm n K S f L B M) (x : GV M) : (keyAt h x).length = K ∧ x.key = nameOf (keyAt h x) ∧ L (keyAt h x) = true := Classical.choose_spec (h.names x.key _ x.has)
/-- the state of Rows' loop -/
structure RowSt (w : World) (q base S : Nat) (f : Gf) (ks : List (List Cell)) (o : Value) (W : World) : Prop where
  box : W.heap[q]? = some (.cells #[o] 33 (0, 0))
  its : ItemsOwn 60 65 base W o (seenAll S f ks 1)
  old : Old w W

theorem RowSt.later {w W W' : World} {q base S : Nat} {f : Gf} {ks : List (List Cell)} {o : Value} (h : RowSt w q base S f ks o W) (k : Old W W') : RowSt w q base S f ks o W' := ⟨k.heap h.box, h.its.old k, h.old.trans k⟩
set_option maxRecDepth 100000 in
theorem app_seen (w : World) (base : Nat) (v : Value) (l : List Item) (hown : ItemsOwn 60 65 base w v l) (xv : Value) (m : List Item) (hx : ItemsT 60 65 base w xv m) (hlen : l.length + m.length ≤ 4194304) (hbase : base ≤ w.heap.size) :
    ∃ v' w', (Builtin.append_ #[33, 33] 33 #[v, xv]).run Tryz.prog w = .ok v' w' ∧ ItemsOwn 60 65 base w' v' (l ++ m) ∧ Kept 60 base w w' ∧ KeepsWalks w w' ∧ KeepsFrom base w w' := by
  obtain ⟨i0, hi, hz0, hz1, hz2⟩ := info_parts itemInfo
  obtain ⟨vs, e1, e2, e3⟩ := hown
  obtain ⟨us, g1, g2, g3⟩ := hx
  obtain ⟨v', w', hrun, own', hg⟩ := run_append_sl (P := Tryz.prog) w base 33 33 60 i0 _ 2 32 Tryz.underlying33 hi hz0 hz1 hz2 rfl (by omega) v l.length (itemVals vs l) e2
    xv m.length (itemVals us m) g2.sl (itemVals_length us m g1) (itemVals_cell2 us m (fun v hv => by
      obtain ⟨i, hi, rfl⟩ := List.getElem_of_mem hv
      obtain ⟨A, c, hh, _⟩ := g3 i (by omega) hi
      rw [hh]
      rfl)) (by unfold maxLen; omega) (by omega) hbase
  have hK := Kept.of_grown e2 hg hbase
  have hrow : ∀ (j : Nat) (o : Obj), v.ownBlock = some j → w.heap[j]? = some o → o.isCells = true := fun j o hj ho => by
    obtain ⟨cs, T, f, hh, _⟩ := own_block e2 j hj
    rw [hh] at ho
    injection ho with ho
    subst ho
    rfl
  have hKO := KeepsOthers.of_grownBy hg hrow
  refine ⟨v', w', hrun, ⟨vs ++ us, by simp [e1, g1], ?_, ?_⟩, hK, hKO.walks, hKO.from base⟩
  · rw [itemVals_append vs l _ _ e1, List.length_append]
    exact own'
  · intro i hi hi'
    rcases Nat.lt_or_ge i l.length with hlt | hge
    · have : i < vs.length := by omega
      rw [List.getElem_append_left this]
      simp only [List.getElem_append_left hlt]
      exact hK.slT (e3 i hlt this) (by decide)
    · rw [List.getElem_append_right (by omega)]
      simp only [List.getElem_append_right hge, e1]
      exact hK.slT (g3 _ (by simp at hi; omega) (by simp at hi'; omega)) (by decide)
theorem opIn_append {F : Fence} {n : Nat} {P : Program} {o : Oper} {a : Act} {K : Act → World → Prop} {Q : Exit → Act → World → Prop} (w : World) (s x : Operand) (t : TypeId) (hop : o.op = Op.call { callee := Callee.builtin Builtin.append, args := #[s, x], argTypes := #[t, t] })
    (v xv v' : Value) (w' : World) (hs : a.eval s = v) (hx : a.eval x = xv) (hrun : (Builtin.append_ #[t, t] o.type #[v, xv]).run P w = .ok v' w') (hK : K (a.put o.dst v') w') : o.wpIn F n P a w K Q := by
  unfold Oper.wpIn
  refine ⟨?_, ?_⟩
  · simp [Oper.about, hop, resolve, Target.leads, Sem.run_pure]
  · rw [Oper.semAt_plain F _ _ (by rw [hop]; intro c hc'; cases hc')]
    simp [execOp, hop, resolve, invoke, builtin, hs, hx, hrun, Result.andThen]
    exact hK
theorem keepsFrom_old {B : Nat} {w w' : World} (o : Old w w') : KeepsFrom B w w' := ⟨o.size, fun _ _ _ hk _ => o.heap hk⟩
theorem keepsWalks_old {w w' : World} (o : Old w w') : KeepsWalks w w' := ⟨o.size, fun _ _ hk _ => o.heap hk⟩
theorem own_turn {w W W' : World} {q base S : Nat} {f : Gf} {ks : List (List Cell)} {o : Value} {row : Option Nat} (h : RowSt w q base S f ks o W) (hg : W.grownBy W' row) (hr : ∀ r, row = some r → w.heap.size ≤ r ∧ ∃ o : Obj, W.heap[r]? = some o ∧ o.isCells = false) : RowSt w q base S f ks o W' := by
  have hc : Chg (fun b => row = some b) W W' := ⟨hg.os, hg.tape, hg.output, hg.size, fun b hb hx => hg.block b hb (fun e => hx e.symm)⟩
  have hcell : ∀ (b : Nat) cs T f, W.heap[b]? = some (.cells cs T f) → ¬ row = some b := fun b cs T f hh e => by
    obtain ⟨_, o, ho, hn⟩ := hr b e
    rw [hh] at ho
    injection ho with ho
    subst ho
    cases hn
  refine ⟨(hc.block q (block_lt h.box) (hcell _ _ _ _ h.box)).trans h.box, ItemsOwn.chg h.its hc hcell, ?_⟩
  exact Below.trans h.old (Chg.below hc (lo := w.heap.size) h.old.size (fun n hn e => by have := (hr n e).1; omega))
theorem RowSt.push {w W w' w'' : World} {q base S : Nat} {f : Gf} {ks : List (List Cell)} {o o' : Value} {k : List Cell} (h : RowSt w q base S f ks o W) (hq : w.heap.size ≤ q) (hqb : q < base) (ho : Old W w') (kp : Kept 60 base w' w'') (own : ItemsOwn 60 65 base w'' o' (seenAll S f ks 1 ++ seenIt S f k 1)) :
    RowSt w q base S f (ks ++ [k]) o' (w''.setCell ⟨q, 0, none⟩ o') := by
  have hbx : w''.heap[q]? = some (.cells #[o] 33 (0, 0)) := (kp.low.block q hqb).trans (ho.heap h.box)
  have hC : Chg (fun b => b = q) w'' (w''.setCell ⟨q, 0, none⟩ o') := (Chg.refl (fun b => b = q) w'').set (p := q) rfl 0 o'
  refine ⟨heap_set hbx o', ?_, ?_⟩
  · rw [seenAll_snoc]
    obtain ⟨vs, h1, h2, h3⟩ := own
    refine ⟨vs, h1, own_set h2 hqb o', fun i hi hi' => (h3 i hi hi').chg hC (fun b cs f hl hh e => by omega)⟩
  · refine Old.setCell (Below.trans (h.old.trans ho) (kp.low.mono ?_)) hq o'
    omega

set_option maxRecDepth 100000 in
set_option maxHeartbeats 4000000 in
theorem rows_run (g bm K S m : Nat) (f : Gf) (B : Nat → Prop) (w : World) (hG : GIs w g bm K S m f B) (hKK : K ≤ 64) (hS : S ≤ 64) (hm : m ≤ 100000) :
    Calls Tryz.prog 18 #[.pointer (some ⟨g, 0, none⟩)] w (RowsPost w K S m f) := by
  obtain ⟨M, hM⟩ := hG.map
  have HG := hide hG
  have HM := hide hM
  have hinv : ∀ s v, M s = some v → ∃ c, v = mkSt c := fun s v hv => by
    obtain ⟨k, _, rfl, hL⟩ := hM.names s v hv
    obtain ⟨u, hu, a, b, rfl, ha, hb⟩ := hM.some_ k hL
    rw [hv] at hu
    injection hu with hu
    obtain ⟨A0, c0, rfl⟩ := ha.form
    obtain ⟨A9, c9, rfl⟩ := hb.form
    exact ⟨((A0, _, c0), (A9, _, c9)), hu⟩
  have HINV := hide hinv
  clear hinv
  refine (callsIn_wide (n := 6)).1 ?_
  refine callsIn_of_wp_marks Tryz.func18 rfl trivial ?_ rfl
  simp only [Tryz.ntmps18, List.size_toArray, List.length_cons, List.length_nil, Nat.reduceAdd, Nat.reduceSub, Array.replicate_succ, Array.replicate_zero, List.push_toArray, List.append_toArray, List.nil_append, List.cons_append]
  gi_wp2_with fail
  refine ⟨trivial, (callsIn_wide.2 (none_made g w hG.c0)).mono ?_⟩
  rintro e w1 ⟨rfl, rfl⟩
  have y3 : (w.alloc (.cells #[.slice none 0 0] 33)).cell? ⟨g, 3, none⟩ = some (.map (some bm)) := ((Old.refl w).alloc _).cell hG.c3
  have hgl := hG.gLt
  clear hG hM
  gi_wp2_with fail
  refine ⟨trivial, (callsIn_wide.2 (values_run (some bm) _)).mono ?_⟩
  rintro e w2 ⟨rfl, rfl⟩
  gi_wp2_with fail
  obtain ⟨W2, hW2⟩ : ∃ W2, Hid (((w.alloc (.cells #[.slice none 0 0] 33)).alloc (.cells #[.map (some bm)] 54)) = W2) := ⟨_, hide rfl⟩
  rw [hW2.out]
  have HO2 := hide (show Old w W2 by rw [← hW2.out]; exact ((Old.refl w).alloc _).alloc _)
  have HB1 := hide (show W2.heap[w.heap.size]? = some (.cells #[.slice none 0 0] 33 (0, 0)) by rw [← hW2.out]; exact (Old.alloc (Old.refl _) _).heap (heap_alloc_at (w := w) _))
  have HB2 := hide (show W2.heap[w.heap.size + 1]? = some (.cells #[.map (some bm)] 54 (0, 0)) by
    rw [← hW2.out]
    have := heap_alloc_at (w := w.alloc (.cells #[.slice none 0 0] 33)) (.cells #[.map (some bm)] 54)
    simpa using this)
  have hs2 : W2.heap.size = w.heap.size + 2 := by rw [← hW2.out]; simp
  have HMM := hide ((HM.out.old HO2.out).map)
  clear y3
  refine wpIn_rangeFunc_ownH rfl (by omega) (gf := 71) (lb := #[.pointer (some ⟨w.heap.size + 1, 0, none⟩)]) rfl trivial (enters_of Tryz.func71 (by kernel_rfl) rfl)
    (values_it 5 (by omega) (w.heap.size + 1) bm m M W2 HMM.out HB2.out HINV.out)
    (fun h k => h.trans k) (fun W l o o' hl ho' hc hw => KeepsWalks.putObj o' ho' hw) (Below.refl _ _) (fun _ => rfl)
    (fun pre W => ∃ o, RowSt w w.heap.size W2.heap.size S f (pre.map (keyAt HM.out)) o W ∧ W2.heap.size ≤ W.heap.size)
    (fun _ _ _ => False)
    (fun s A C row hs hg hr => by
      obtain ⟨o, h, h2⟩ := hs
      exact ⟨o, own_turn h hg (fun r hr' => ⟨by have := (hr r hr').1; omega, (hr r hr').2⟩), Nat.le_trans h2 hg.size⟩)
    (fun _ _ _ _ _ hs _ _ => hs)
    ⟨_, ⟨HB1.out, ItemsOwn.nil_ _, HO2.out⟩, Nat.le_refl _⟩
    (fun x a' W => ∃ bx, W2.heap.size ≤ bx ∧ W.heap[bx]? = some (.cells #[.slice x.c.1.1 x.c.1.2.1 x.c.1.2.2, .slice x.c.2.1 x.c.2.2.1 x.c.2.2.2] 81 (0, 0)) ∧ W2.heap.size ≤ W.heap.size ∧
      a' = { tmps := #[.pointer (some ⟨g, 0, none⟩), undef, .slice none 0 0, .pointer (some ⟨w.heap.size, 0, none⟩), .pointer (some ⟨bx, 0, none⟩), undef, undef, .pointer (some ⟨g, 0, none⟩), .bool false, .pointer (some ⟨g, 0, none⟩), .pointer (some ⟨g, 0, none⟩), .pointer (some ⟨g, 3, none⟩), .map (some bm), .func (.func 71) #[] #[.pointer (some ⟨w.heap.size + 1, 0, none⟩)], mkSt x.c, undef, undef, undef, undef, undef, undef, undef, undef, undef, undef], defers := [] })
    (fun x a' s A C row hs hg hr => by
      obtain ⟨bx, h0, h1, h2, h3⟩ := hs
      refine ⟨bx, h0, (hg.block bx (block_lt h1) (fun e => ?_)).trans h1, Nat.le_trans h2 hg.size, h3⟩
      obtain ⟨_, o, ho, hn⟩ := hr bx e.symm
      rw [h1] at ho
      injection ho with ho
      subst ho
      cases hn) ?assign ?body ?done ?stop
  case assign =>
    intro lp pre x W K hI hK
    obtain ⟨o, hst, hws⟩ := hI
    obtain ⟨s, ⟨⟨A1, n1, c1⟩, ⟨A2, n2, c2⟩⟩, hx⟩ := x
    gi_wp2
    exact hK _ _ (keepsFrom_old ((Old.refl W).alloc _)) (keepsWalks_old ((Old.refl W).alloc _)) ⟨o, hst.later ((Old.refl W).alloc _), by simp; omega⟩ ⟨W.heap.size, hws, heap_alloc_at _, by simp; omega, rfl⟩
  case body =>
    rintro lp pre x a' W hl hrl ⟨o, hst, hws⟩ ⟨bx, hbx0, hbx, -, rfl⟩ hlen
    have hsp := keyAt_spec HM.out x
    obtain ⟨k, hk⟩ : ∃ k, Hid (keyAt HM.out x = k) := ⟨_, hide rfl⟩
    rw [hk.out] at hsp
    obtain ⟨h1, h2, h3⟩ := hsp
    have HE := hide (show GEnt w B k (numsOf S f k) (mkSt x.c) by
      obtain ⟨u, hu, hE⟩ := HM.out.some_ k h3
      rw [← h2, x.has] at hu
      injection hu with hu
      rw [hu]
      exact hE)
    obtain ⟨s, ⟨⟨A1, n1, c1⟩, ⟨A2, n2, c2⟩⟩, hx⟩ := x
    have HST := hide hst
    have CS := hide (fun W' (ho : Old W W') => show Calls Tryz.prog 37 #[.agg #[.slice A1 n1 c1, .slice A2 n2 c2], .int .i64 1] W' (SeenPost W' (seenIt S f k 1)) by
      obtain ⟨a, b, e, ha, hb⟩ := HE.out
      unfold stVal at e
      injection e with e
      have e1 : Value.slice A1 n1 c1 = a := by injection e with e; injection e
      have e2 : Value.slice A2 n2 c2 = b := by injection e with e; injection e with _ e; injection e
      rw [e1, e2, ← seenV_nums]
      have hoW := HST.out.old.trans ho
      exact (seen_run a b k _ 1 W' (ha.sl.old hoW) (hb.sl.old hoW) (by omega) (by rw [numsOf_length]; omega)).mono fun _ _ h => h.seen)
    have q0 : W.cell? ⟨w.heap.size, 0, none⟩ = some o := (cell_of_heap hst.box).trans rfl
    have b0 : W.cell? ⟨bx, 0, none⟩ = some (.slice A1 n1 c1) := (cell_of_heap hbx).trans rfl
    have b1 : W.cell? ⟨bx, 1, none⟩ = some (.slice A2 n2 c2) := (cell_of_heap hbx).trans rfl
    have hbxW : bx < W.heap.size := block_lt hbx
    have HBX := hide hbx
    have hpre := hlen
    clear hst hbx
    gi_wp2_with fail
    have hsl := seenAll_len S f (pre.map (keyAt HM.out)) 1
    have hsi := seenIt_len S f k 1
    rw [List.length_map] at hsl
    have hll : (seenAll S f (pre.map (keyAt HM.out)) 1).length + (seenIt S f k 1).length ≤ 4194304 := by omega
    refine wpIn_region_any (by kernel_rfl) ?_
    change wpAnyIn _ _ _ _ _ _ _ _ _ (World.drew _)
    refine wpAnyIn_ready (rs := [0, 1]) (by kernel_rfl) (by simp) ?_
    refine AllReadyIn.cons rfl (fun Kc hKc => ?_) (AllReadyIn.cons rfl (fun Kc hKc => ?_) AllReadyIn.nil)
    · go_simp
      refine hKc _ _ ?_
      clear hKc
      refine wpAnyIn_ready (rs := [1]) (by kernel_rfl) (by simp) ?_
      refine AllReadyIn.cons rfl (fun Kc hKc => ?_) AllReadyIn.nil
      go_simp
      refine hKc _ _ ?_
      clear hKc
      refine wpAnyIn_ready (rs := [2]) (by kernel_rfl) (by simp) ?_
      refine AllReadyIn.cons rfl (fun Kc hKc => ?_) AllReadyIn.nil
      go_simp
      refine ⟨trivial, (CallsIn.inRound lp (callsIn_wide.2 (CS.out W.drew (Old.drew (Old.refl W))))).mono ?_⟩
      rintro e5 w5 ⟨A5, c5, rfl, hi5, ho5⟩
      refine hKc _ _ ?_
      clear hKc
      have q5 : w5.cell? ⟨w.heap.size, 0, none⟩ = some o := ho5.cell q0
      obtain ⟨v6, w6, happ, own6, kp6, kw6, kf6⟩ := app_seen w5 W2.heap.size o _ (HST.out.its.old (Old.trans (Old.drew (Old.refl W)) ho5)) _ _ (hi5.mono hws) hll (Nat.le_trans hws ho5.size)
      have HQ6 := hide ((kp6.low.block w.heap.size (by omega)).trans (ho5.heap HST.out.box))
      have q6 : w6.cell? ⟨w.heap.size, 0, none⟩ = some o := (cell_of_heap HQ6.out).trans rfl
      have f6 : w6.frozen? ⟨w.heap.size, 0, none⟩ = false := free_of_heap HQ6.out
      obtain ⟨A6, n6, c6, rfl⟩ : ∃ A6 n6 c6, v6 = .slice A6 n6 c6 := by
        obtain ⟨vs6, -, o6, -⟩ := own6
        obtain ⟨A6, c6, rfl, -⟩ := SlT.of_own o6
        exact ⟨_, _, _, rfl⟩
      refine wpAnyIn_ready (rs := [3]) (by kernel_rfl) (by simp) ?_
      refine AllReadyIn.cons rfl (fun Kc hKc => ?_) AllReadyIn.nil
      refine opIn_append _ _ _ 33 rfl o _ (.slice A6 n6 c6) w6 rfl rfl happ ?_
      refine hKc _ _ ?_
      clear hKc
      refine wpAnyIn_ready (rs := [4]) (by kernel_rfl) (by simp) ?_
      refine AllReadyIn.cons rfl (fun Kc hKc => ?_) AllReadyIn.nil
      go_simp
      refine hKc _ _ ?_
      clear hKc
      refine wpAnyIn_done (by kernel_rfl) ?_ _
      have o5 := Old.trans (Old.drew (Old.refl W)) ho5
      refine ⟨((keepsFrom_old o5).trans kf6).trans ((KeepsOthers.setCell _ _ _).from _), ((keepsWalks_old o5).trans kw6).trans (KeepsWalks.setCell _ _ _), .slice A6 n6 c6, ?_, ?_⟩
      · rw [List.map_append, List.map_cons, List.map_nil, hk.out]
        exact HST.out.push (Nat.le_refl _) (by omega) o5 kp6 own6
      · have := (KeepsWalks.setCell w6 ⟨w.heap.size, 0, none⟩ (.slice A6 n6 c6)).size
        have := kp6.low.size
        have := ho5.size
        exact Nat.le_trans hws (Nat.le_trans ho5.size (by omega))
    · go_simp
      refine hKc _ _ ?_
      clear hKc
      refine wpAnyIn_ready (rs := [0, 2]) (by kernel_rfl) (by simp) ?_
      refine AllReadyIn.cons rfl (fun Kc hKc => ?_) (AllReadyIn.cons rfl (fun Kc hKc => ?_) AllReadyIn.nil)
      · go_simp
        refine hKc _ _ ?_
        clear hKc
        refine wpAnyIn_ready (rs := [2]) (by kernel_rfl) (by simp) ?_
        refine AllReadyIn.cons rfl (fun Kc hKc => ?_) AllReadyIn.nil
        go_simp
        refine ⟨trivial, (CallsIn.inRound lp (callsIn_wide.2 (CS.out W.drew (Old.drew (Old.refl W))))).mono ?_⟩
        rintro e5 w5 ⟨A5, c5, rfl, hi5, ho5⟩
        refine hKc _ _ ?_
        clear hKc
        have q5 : w5.cell? ⟨w.heap.size, 0, none⟩ = some o := ho5.cell q0
        obtain ⟨v6, w6, happ, own6, kp6, kw6, kf6⟩ := app_seen w5 W2.heap.size o _ (HST.out.its.old (Old.trans (Old.drew (Old.refl W)) ho5)) _ _ (hi5.mono hws) hll (Nat.le_trans hws ho5.size)
        have HQ6 := hide ((kp6.low.block w.heap.size (by omega)).trans (ho5.heap HST.out.box))
        have q6 : w6.cell? ⟨w.heap.size, 0, none⟩ = some o := (cell_of_heap HQ6.out).trans rfl
        have f6 : w6.frozen? ⟨w.heap.size, 0, none⟩ = false := free_of_heap HQ6.out
        obtain ⟨A6, n6, c6, rfl⟩ : ∃ A6 n6 c6, v6 = .slice A6 n6 c6 := by
          obtain ⟨vs6, -, o6, -⟩ := own6
          obtain ⟨A6, c6, rfl, -⟩ := SlT.of_own o6
          exact ⟨_, _, _, rfl⟩
        refine wpAnyIn_ready (rs := [3]) (by kernel_rfl) (by simp) ?_
        refine AllReadyIn.cons rfl (fun Kc hKc => ?_) AllReadyIn.nil
        refine opIn_append _ _ _ 33 rfl o _ (.slice A6 n6 c6) w6 rfl rfl happ ?_
        refine hKc _ _ ?_
        clear hKc
        refine wpAnyIn_ready (rs := [4]) (by kernel_rfl) (by simp) ?_
        refine AllReadyIn.cons rfl (fun Kc hKc => ?_) AllReadyIn.nil
        go_simp
        refine hKc _ _ ?_
        clear hKc
        refine wpAnyIn_done (by kernel_rfl) ?_ _
        have o5 := Old.trans (Old.drew (Old.refl W)) ho5
        refine ⟨((keepsFrom_old o5).trans kf6).trans ((KeepsOthers.setCell _ _ _).from _), ((keepsWalks_old o5).trans kw6).trans (KeepsWalks.setCell _ _ _), .slice A6 n6 c6, ?_, ?_⟩
        · rw [List.map_append, List.map_cons, List.map_nil, hk.out]
          exact HST.out.push (Nat.le_refl _) (by omega) o5 kp6 own6
        · have := (KeepsWalks.setCell w6 ⟨w.heap.size, 0, none⟩ (.slice A6 n6 c6)).size
          have := kp6.low.size
          have := ho5.size
          exact Nat.le_trans hws (Nat.le_trans ho5.size (by omega))
      · go_simp
        refine ⟨trivial, (CallsIn.inRound lp (callsIn_wide.2 (CS.out W.drew (Old.drew (Old.refl W))))).mono ?_⟩
        rintro e5 w5 ⟨A5, c5, rfl, hi5, ho5⟩
        refine hKc _ _ ?_
        clear hKc
        have q5 : w5.cell? ⟨w.heap.size, 0, none⟩ = some o := ho5.cell q0
        refine wpAnyIn_ready (rs := [0]) (by kernel_rfl) (by simp) ?_
        refine AllReadyIn.cons rfl (fun Kc hKc => ?_) AllReadyIn.nil
        go_simp
        refine hKc _ _ ?_
        clear hKc
        obtain ⟨v6, w6, happ, own6, kp6, kw6, kf6⟩ := app_seen w5 W2.heap.size o _ (HST.out.its.old (Old.trans (Old.drew (Old.refl W)) ho5)) _ _ (hi5.mono hws) hll (Nat.le_trans hws ho5.size)
        have HQ6 := hide ((kp6.low.block w.heap.size (by omega)).trans (ho5.heap HST.out.box))
        have q6 : w6.cell? ⟨w.heap.size, 0, none⟩ = some o := (cell_of_heap HQ6.out).trans rfl
        have f6 : w6.frozen? ⟨w.heap.size, 0, none⟩ = false := free_of_heap HQ6.out
        obtain ⟨A6, n6, c6, rfl⟩ : ∃ A6 n6 c6, v6 = .slice A6 n6 c6 := by
          obtain ⟨vs6, -, o6, -⟩ := own6
          obtain ⟨A6, c6, rfl, -⟩ := SlT.of_own o6
          exact ⟨_, _, _, rfl⟩
        refine wpAnyIn_ready (rs := [3]) (by kernel_rfl) (by simp) ?_
        refine AllReadyIn.cons rfl (fun Kc hKc => ?_) AllReadyIn.nil
        refine opIn_append _ _ _ 33 rfl o _ (.slice A6 n6 c6) w6 rfl rfl happ ?_
        refine hKc _ _ ?_
        clear hKc
        refine wpAnyIn_ready (rs := [4]) (by kernel_rfl) (by simp) ?_
        refine AllReadyIn.cons rfl (fun Kc hKc => ?_) AllReadyIn.nil
        go_simp
        refine hKc _ _ ?_
        clear hKc
        refine wpAnyIn_done (by kernel_rfl) ?_ _
        have o5 := Old.trans (Old.drew (Old.refl W)) ho5
        refine ⟨((keepsFrom_old o5).trans kf6).trans ((KeepsOthers.setCell _ _ _).from _), ((keepsWalks_old o5).trans kw6).trans (KeepsWalks.setCell _ _ _), .slice A6 n6 c6, ?_, ?_⟩
        · rw [List.map_append, List.map_cons, List.map_nil, hk.out]
          exact HST.out.push (Nat.le_refl _) (by omega) o5 kp6 own6
        · have := (KeepsWalks.setCell w6 ⟨w.heap.size, 0, none⟩ (.slice A6 n6 c6)).size
          have := kp6.low.size
          have := ho5.size
          exact Nat.le_trans hws (Nat.le_trans ho5.size (by omega))
  case done =>
    rintro D xs W hD ⟨hnd, hall⟩ ⟨o, hst, hws⟩ hK
    have hND : (xs.map (keyAt HM.out)).Nodup := by
      rw [List.Nodup, List.pairwise_map] at hnd ⊢
      exact hnd.imp (fun {a b} h e => h (by rw [(keyAt_spec HM.out a).2.1, (keyAt_spec HM.out b).2.1, e]))
    have hLen : ∀ k ∈ xs.map (keyAt HM.out), k.length = K := fun k hk => by
      obtain ⟨x, _, rfl⟩ := List.mem_map.1 hk
      exact (keyAt_spec HM.out x).1
    have hCov : ∀ k, f k 0 ≠ 0 → k ∈ xs.map (keyAt HM.out) := fun k hk => by
      have hL : leftB S f k = true := by
        cases h : leftB S f k
        · exact absurd (leftB_false.1 h 0 (by omega)) hk
        · rfl
      obtain ⟨v, hv, _⟩ := HM.out.some_ k hL
      obtain ⟨x, hx, hxk⟩ := List.mem_map.1 (hall _ _ hv)
      exact List.mem_map.2 ⟨x, hx, nameOf_inj (by rw [← (keyAt_spec HM.out x).2.1, hxk])⟩
    have hcnt : xs.length ≤ m := by
      have := HM.out.map.count hnd (fun s hs => by
        obtain ⟨x, _, rfl⟩ := List.mem_map.1 hs
        exact ⟨_, x.has⟩)
      simpa using this
    obtain ⟨hz1, hz2⟩ := seen_rows hND hLen hCov
    have hsl := seenAll_len S f (xs.map (keyAt HM.out)) 1
    rw [List.length_map] at hsl
    have hzl := normOut_len (seenAll S f (xs.map (keyAt HM.out)) 1)
    have hfi := seenAll_fine (S := S) (f := f) (w := 1) hLen (by unfold fit; omega)
    have CNO := zset_Norm o (seenAll S f (xs.map (keyAt HM.out)) 1) W hst.its.t.is (by omega) (fun i hi => by have := (hfi _ (List.getElem_mem hi)).1; omega) (fun x hx => (hfi x hx).2)
    obtain ⟨z, hz⟩ : ∃ z, Hid (normOut (seenAll S f (xs.map (keyAt HM.out)) 1) = z) := ⟨_, hide rfl⟩
    rw [hz1, hz.out] at CNO
    rw [hz.out] at hz2 hzl
    have CN := hide CNO
    have HDZ := hide hz2
    have HZL := hide (show z.length ≤ m by omega)
    have q0 : W.cell? ⟨w.heap.size, 0, none⟩ = some o := (cell_of_heap hst.box).trans rfl
    have HST := hide hst
    clear hz1 hz2 hfi CNO hzl hsl hnd hall hND hLen hCov hst
    gi_wp2_with fail
    refine ⟨trivial, (callsIn_wide.2 CN.out).mono ?_⟩
    rintro e w6 ⟨vo, rfl, hit, ho6⟩
    have hK6 := ho6.heap hK
    obtain ⟨vs0, -, ⟨Ao, co, rfl, -⟩, -⟩ := id hit
    gi_wp2_with fail
    refine ⟨by simp, .inl ⟨_, _, rfl, run_takeDeferred hK6, ?_⟩⟩
    have hg : w6.grownBy (w6.putObj D (.deferred none)) (some D) := grownBy_putObj' w6 D _
    have hC := Chg.of_grown hg
    have hO := HST.out.old.trans ho6
    refine ⟨.slice Ao z.length co, results_tmp Tryz.results18 _ _ _, .slice Ao z.length co, z, rfl, (hit.mono (Nat.le_trans (by omega) hws)).chg hC (fun b cs T f _ hh e => ?_), HDZ.out, HZL.out, ?_⟩
    · subst e
      rw [hK6] at hh
      cases hh
    · exact Below.trans hO (Chg.below hC (lo := w.heap.size) hO.size (by omega))
  case stop =>
    rintro D c pre W _ _ hf _
    exact hf.elim
end Go.Proofs.YtmfbblcipakaiaaGreatDoor

/-! ### The walks of New and Copy, and what groups that are none do. -/
namespace Go.Proofs.YtmfbblcipakaiaaGreatDoor
open Go.RowKit Go.Maps

set_option maxRecDepth 100000 in
theorem clone_run (b n : Nat) (M : ByteArray → Option Value) (w : World) (hM : MapIs Tryz.prog 9 w b n M) :
    Calls Tryz.prog 59 #[.map (some b)] w fun e w' => e = .returned (.map (some w.heap.size)) ∧ MapIs Tryz.prog 9 w' w.heap.size n M ∧ Old w w' := by
  obtain ⟨D, ⟨es, clock, hb, F, hs, hD⟩, hH⟩ := hM
  have hq := fun w => run_eql_map_nil_sl (P := Tryz.prog) w 54 _ _ (some b) Tryz.underlying54
  have HR := hide (show MapIs Tryz.prog 9 (w.alloc (.map es clock)) w.heap.size n M from ⟨D, ⟨es, clock, heap_alloc_at _, F, hs, hD⟩, hH⟩)
  go_enter Tryz.func59, Tryz.ntmps59
  go_wp2
  rw [run_callFunc_extern Tryz.func78 (by kernel_rfl) (by kernel_rfl) (by kernel_rfl) (e := Extern.MapsClone.clone) (by kernel_rfl), run_maps_clone_sl w 54 hb]
  simp only [Result.andThen]
  rw [Oper.upon_value]
  go_wp2
  rw [run_typeAssert_map_sl _ 54 20 _ _ _ Tryz.underlying54]
  simp only [Result.andThen]
  rw [Oper.upon_value]
  go_wp2
  go_ret
  exact ⟨rfl, HR.out, (Old.refl w).alloc _⟩

/-- a copy -/
def CopyPost (w : World) (K S m : Nat) (f : Gf) (B : Nat → Prop) (e : Ending) (w' : World) : Prop :=
  ∃ c bc, e = .returned (.pointer (some ⟨c, 0, none⟩)) ∧ w.heap.size ≤ c ∧ w.heap.size ≤ bc ∧ GIs w' c bc K S m f B ∧ Old w w'
set_option maxRecDepth 100000 in
set_option maxHeartbeats 1000000 in
theorem copy_run (g bm K S m : Nat) (f : Gf) (B : Nat → Prop) (w : World) (hG : GIs w g bm K S m f B) :
    Calls Tryz.prog 25 #[.pointer (some ⟨g, 0, none⟩)] w (CopyPost w K S m f B) := by
  obtain ⟨M, hM⟩ := hG.map
  have HG := hide hG
  have HM := hide hM
  have g0 := hG.c0
  have g1 := hG.c1
  have g2 := hG.c2
  have g3 := hG.c3
  have hgl := hG.gLt
  have CL := hide (fun o => clone_run bm m M (w.alloc o) (hM.map.old ((Old.refl w).alloc o)))
  clear hG hM
  go_enter Tryz.func25, Tryz.ntmps25
  go_wp2_with fail
  refine (none_made g w g0).mono ?_
  rintro e w1 ⟨rfl, rfl⟩
  go_wp2_with fail
  refine (CL.out _).mono ?_
  rintro e w2 ⟨rfl, hm2, ho2⟩
  have HM2 := hide hm2
  have HO2 := hide ho2
  have HB := hide (ho2.heap (heap_alloc_at (w := w) (.cells #[.bool true, .int .i64 K, .int .i64 S, .map (some bm)] 56)))
  have b3 : w2.cell? ⟨w.heap.size, 3, none⟩ = some (.map (some bm)) := (cell_of_heap HB.out).trans rfl
  have f3 : w2.frozen? ⟨w.heap.size, 3, none⟩ = false := free_of_heap HB.out
  clear hm2 ho2 g0 g1 g2 g3
  go_wp2_with fail
  go_ret
  have hsz : (w.alloc (.cells #[.bool true, .int .i64 K, .int .i64 S, .map (some bm)] 56)).heap.size = w.heap.size + 1 := by simp
  rw [hsz] at HM2
  have hO : Old w w2 := ((Old.refl w).alloc _).trans HO2.out
  have hC : Chg (fun b => b = w.heap.size) w2 (w2.setCell ⟨w.heap.size, 3, none⟩ (.map (some (w.heap.size + 1)))) := (Chg.refl (fun b => b = w.heap.size) w2).set (p := w.heap.size) rfl 3 _
  have hN : (w2.setCell ⟨w.heap.size, 3, none⟩ (.map (some (w.heap.size + 1)))).heap[w.heap.size]? = some (.cells #[.bool true, .int .i64 K, .int .i64 S, .map (some (w.heap.size + 1))] 56 (0, 0)) := heap_set HB.out _
  refine ⟨w.heap.size, w.heap.size + 1, rfl, Nat.le_refl _, Nat.le_succ _, ⟨(cell_of_heap hN).trans rfl, (cell_of_heap hN).trans rfl, (cell_of_heap hN).trans rfl, (cell_of_heap hN).trans rfl, ⟨M, ?_⟩, HG.out.fit, HG.out.len, ?_, ?_⟩, hO.setCell (Nat.le_refl _) _⟩
  · refine ⟨HM2.out.chg hC (by omega), HM.out.none_, fun k hk => ?_, HM.out.names⟩
    obtain ⟨v, h1, h2⟩ := HM.out.some_ k hk
    have h3 : GEnt w B k (numsOf S f k) v := h2
    obtain ⟨a, b, rfl, ha, hb⟩ := h3
    have hB : ∀ b, b < w.heap.size → B b → B b ∧ b < w.heap.size := fun b h h' => ⟨h', h⟩
    refine ⟨_, h1, a, b, rfl, ?_, ?_⟩
    · exact (((ha.mono (B' := fun b => B b ∧ b < w.heap.size) hB).old hO).chg hC (fun b _ hb e => by have := hb.2; omega)).mono (fun b _ hb => hb.1)
    · exact (((hb.mono (B' := fun b => B b ∧ b < w.heap.size) hB).old hO).chg hC (fun b _ hb e => by have := hb.2; omega)).mono (fun b _ hb => hb.1)
  · intro b hb
    have h1 := HG.out.low b hb
    have h2 := hO.size
    have h3 := hC.size
    omega
  · intro hb
    have := HG.out.low _ hb
    omega

/-- New -/
def NewPost (w : World) (k0 k1 : Int) (e : Ending) (w' : World) : Prop :=
  Old w w' ∧ ((¬ (0 ≤ k0 ∧ k0 ≤ 16 ∧ 0 ≤ k1 ∧ k1 ≤ 16) ∧ e = .returned (.tuple #[.pointer none, .int .i64 2])) ∨
    ((0 ≤ k0 ∧ k0 ≤ 16 ∧ 0 ≤ k1 ∧ k1 ≤ 16) ∧ ∃ g bm, e = .returned (.tuple #[.pointer (some ⟨g, 0, none⟩), .int .i64 0]) ∧ w.heap.size ≤ g ∧ w.heap.size ≤ bm ∧ GIs w' g bm k0.toNat k1.toNat 0 gZero (fun _ => False)))
set_option maxRecDepth 100000 in
set_option maxHeartbeats 1000000 in
theorem new_run (k0 k1 : Int) (w : World) : Calls Tryz.prog 9 #[.int .i64 k0, .int .i64 k1] w (NewPost w k0 k1) := by
  have hmm := @run_makeMap Tryz.prog
  go_enter Tryz.func9, Tryz.ntmps9
  by_cases h : 0 ≤ k0 ∧ k0 ≤ 16 ∧ 0 ≤ k1 ∧ k1 ≤ 16
  · obtain ⟨h1, h2, h3, h4⟩ := h
    obtain ⟨K, rfl⟩ := Int.eq_ofNat_of_zero_le h1
    obtain ⟨S, rfl⟩ := Int.eq_ofNat_of_zero_le h3
    go_wp2_with fail
    go_ret2
    have hB := heap_alloc_at (w := w.alloc (.map #[] 0)) (.cells #[.bool true, .int .i64 K, .int .i64 S, .map (some w.heap.size)] 56)
    refine ⟨((Old.refl w).alloc _).alloc _, .inr ⟨⟨h1, h2, h3, h4⟩, (w.alloc (.map #[] 0)).heap.size, w.heap.size, by simp, by simp, Nat.le_refl _, ⟨(cell_of_heap hB).trans rfl, (cell_of_heap hB).trans rfl, (cell_of_heap hB).trans rfl, (cell_of_heap hB).trans rfl, ⟨fun _ => none, ?_⟩, GFit.zero _, GLen.zero _, fun _ h => h.elim, fun h => h⟩⟩⟩
    refine ⟨(MapIs.made w _ _).old ((Old.refl _).alloc _), fun _ _ => rfl, fun k hk => ?_, fun _ _ h => by cases h⟩
    have : leftB (Int.toNat (S : Int)) gZero k = false := leftB_false.2 fun _ _ => rfl
    rw [this] at hk
    cases hk
  · have hc : k0 < 0 ∨ (0 ≤ k0 ∧ 16 < k0) ∨ (0 ≤ k0 ∧ k0 ≤ 16 ∧ k1 < 0) ∨ (0 ≤ k0 ∧ k0 ≤ 16 ∧ 0 ≤ k1 ∧ 16 < k1) := by omega
    rcases hc with h1 | ⟨h1, h2⟩ | ⟨h1, h2, h3⟩ | ⟨h1, h2, h3, h4⟩
    all_goals
      have H := hide h
      clear h
      go_wp2_with fail
      go_ret2
      exact ⟨Old.refl w, .inl ⟨H.out, rfl⟩⟩

/-! ### groups that are none -/
set_option maxRecDepth 100000 in
theorem apply_none (p : Option Addr) (v : Value) (w : World) (hN : ∀ w', Old w w' → Calls Tryz.prog 31 #[.pointer p] w' fun e w2 => e = .returned (.bool true) ∧ w' = w2) :
    Calls Tryz.prog 12 #[.pointer p, v] w fun e w' => e = .returned (.tuple #[.slice none 0 0, .int .i64 1]) ∧ Old w w' := by
  have HN := hide hN
  clear hN
  go_enter Tryz.func12, Tryz.ntmps12
  go_wp2_with fail
  refine (HN.out _ ((Old.refl w).alloc _)).mono ?_
  rintro e w1 ⟨rfl, rfl⟩
  go_wp2_with fail
  go_ret2
  exact ⟨rfl, (Old.refl w).alloc _⟩
set_option maxRecDepth 100000 in
theorem rows_none (p : Option Addr) (w : World) (hN : Calls Tryz.prog 31 #[.pointer p] w fun e w2 => e = .returned (.bool true) ∧ w = w2) :
    Calls Tryz.prog 18 #[.pointer p] w fun e w' => e = .returned (.slice none 0 0) ∧ w = w' := by
  have HN := hide hN
  clear hN
  refine (callsIn_wide (n := 6)).1 ?_
  refine callsIn_of_wp_marks Tryz.func18 rfl trivial ?_ rfl
  simp only [Tryz.ntmps18, List.size_toArray, List.length_cons, List.length_nil, Nat.reduceAdd, Nat.reduceSub, Array.replicate_succ, Array.replicate_zero, List.push_toArray, List.append_toArray, List.nil_append, List.cons_append]
  gi_wp2_with fail
  refine ⟨trivial, (callsIn_wide.2 HN.out).mono ?_⟩
  rintro e w1 ⟨rfl, rfl⟩
  gi_wp2_with fail
  exact ⟨.slice none 0 0, results_tmp Tryz.results18 _ _ _, rfl, rfl⟩
set_option maxRecDepth 100000 in
theorem copy_none (p : Option Addr) (w : World) (hN : Calls Tryz.prog 31 #[.pointer p] w fun e w2 => e = .returned (.bool true) ∧ w = w2) :
    Calls Tryz.prog 25 #[.pointer p] w fun e w' => e = .returned (.pointer none) ∧ w = w' := by
  have HN := hide hN
  clear hN
  go_enter Tryz.func25, Tryz.ntmps25
  go_wp2_with fail
  refine HN.out.mono ?_
  rintro e w1 ⟨rfl, rfl⟩
  go_wp2_with fail
  go_ret
  exact ⟨rfl, rfl⟩
end Go.Proofs.YtmfbblcipakaiaaGreatDoor

/-! ### The statements' own inputs: entries cut short. -/
/-! ### The statements' own inputs: entries cut short. -/
namespace Go.Proofs.YtmfbblcipakaiaaGreatDoor
open Go.RowKit

def cutS (s : ByteArray) : ByteArray := s.extract 0 (min (s.size : Int) 100).toNat
def cutC (c : Cell) : Cell := ⟨c.null, c.n, cutS c.s⟩
def shortRow (r : List Cell) : List Cell := (r.take 18).map cutC
theorem row_one {w : World} {g cap : Nat} {c : Cell} (hc : 1 ≤ cap) (hm : cap ≤ 1048576) (h0 : w.cell? ⟨g, 0, none⟩ = some (.bool c.null)) (h1 : w.cell? ⟨g, 1, none⟩ = some (.int .i64 c.n)) (h2 : w.cell? ⟨g, 2, none⟩ = some (.string c.s)) :
    RowIs w (.slice (some ⟨g, 0, none⟩) 1 cap) [c] := by
  refine ⟨_, _, rfl, hc, by unfold maxLen; omega, fun _ => ⟨g, 0, rfl, fun j u hu => ?_⟩⟩
  rw [rowVals_one] at hu
  match j, hu with
  | 0, hu => simp [Cell.vals] at hu; subst hu; exact h0
  | 1, hu => simp [Cell.vals] at hu; subst hu; exact h1
  | 2, hu => simp [Cell.vals] at hu; subst hu; exact h2
  | j + 3, hu => simp [Cell.vals] at hu
theorem short_next {r : List Cell} {k : Nat} (h : k < r.length) : (r.take (k + 1)).map cutC = (r.take k).map cutC ++ [⟨r[k].null, r[k].n, cutS r[k].s⟩] := by
  rw [List.take_succ_eq_append_getElem h, List.map_append]
  rfl

set_option maxRecDepth 100000 in
set_option maxHeartbeats 1000000 in
theorem short_run (v : Value) (r : List Cell) (w : World) (h : RowIs w v r) : Calls Tryz.prog 30 #[v] w (NewRow w (shortRow r)) := by
  obtain ⟨A, ca, rfl, hla, hma, ha⟩ := h.row
  unfold maxLen at hma
  clear h
  go_enter Tryz.func30, Tryz.ntmps30
  go_wp2_with fail
  go_loopw [3, 4] (fun o i wr => ∃ k : Nat, i = .int .i64 k ∧ k ≤ r.length ∧ k ≤ 18 ∧ Hid (wr.ownsRow w.heap.size 65 3 o ((r.take k).map cutC).length (rowVals ((r.take k).map cutC))) ∧ Old w wr) (fun _ i _ => r.length - (intOf i).toNat)
  case atStart => exact ⟨0, rfl, by omega, by omega, hide (World.ownsRow_nil _ _ _ _), Old.refl _⟩
  case round =>
    obtain ⟨k, rfl, hk, hk18, HOWN, hbl⟩ := hrel
    by_cases hlt : k < r.length
    · by_cases h18 : k < 18
      · obtain ⟨b1, o1, rfl, hc1⟩ := ha.resolve_left (by omega)
        obtain ⟨x0, x1, x2⟩ := hc1 k hlt
        have hx0 := Old.cell hbl x0
        have hx1 := Old.cell hbl x1
        have hx2 := Old.cell hbl x2
        have HN := hide (short_next hlt)
        have hlen : ((r.take k).map cutC).length + [(⟨r[k].null, r[k].n, cutS r[k].s⟩ : Cell)].length ≤ 4194304 := by simp; omega
        clear ha hc1 x0 x1 x2
        go_wp2_with (at_builtin; refine wpList_plain rfl (fun K hK => ?_); refine step_push_row _ _ _ rfl w.heap.size _ _ rfl (own_old HOWN.out (((Old.refl wr).alloc _).alloc _)) _ [⟨r[k].null, r[k].n, cutS r[k].s⟩] rfl (row_one (by omega) (by omega) (by go_simp) (by go_simp) (by unfold cutS; go_simp)) hlen ((hbl.alloc _).alloc _).size ?_; intro v' w4 own4 kept4; refine hK _ _ ?_; clear hK)
        have H5 := hide (kept4.old ((hbl.alloc _).alloc _) (Nat.le_refl _))
        clear kept4
        go_roundw
        case rel => exact ⟨k + 1, by go_num, by omega, by omega, hide (by rw [HN.out]; exact own4), H5.out⟩
        case measure => simp [intOf]; omega
      · have HS := HOWN.out
        rw [show r.take k = r.take 18 by rw [show k = 18 by omega]] at HS
        have H3 := hide HS
        clear HS
        go_wp2_with fail
        go_ret
        exact ⟨_, rfl, SlT.of_own H3.out, hbl⟩
    · have HS := HOWN.out
      rw [show r.take k = r.take 18 by rw [List.take_of_length_le (by omega), List.take_of_length_le (by omega)]] at HS
      have H3 := hide HS
      clear HS
      go_wp2_with fail
      go_ret
      exact ⟨_, rfl, SlT.of_own H3.out, hbl⟩


theorem shortRow_len (r : List Cell) : (shortRow r).length ≤ 18 := by simp [shortRow]; omega
theorem cutS_size (s : ByteArray) : (cutS s).size ≤ 100 := by
  unfold cutS
  rw [ByteArray.size_extract]
  omega
theorem shortRow_ok {r : List Cell} (h : ∀ c ∈ r, fit c.n) : KeyOk (shortRow r) where
  len := by have := shortRow_len r; omega
  fits := fun c hc => by
    obtain ⟨y, hy, rfl⟩ := List.mem_map.1 hc
    exact h y (List.mem_of_mem_take hy)
  short := fun c hc => by
    obtain ⟨y, hy, rfl⟩ := List.mem_map.1 hc
    exact cutS_size y.s
def cutE (e : Ent) : Ent := ⟨shortRow e.key, shortRow e.vals, e.w⟩
def cutEs (l : List Ent) : List Ent := (l.take 12).map cutE
theorem cutEs_len (l : List Ent) : (cutEs l).length ≤ 12 := by simp [cutEs]; omega
/-- entries whose numbers are int64s -/
def EFits (l : List Ent) : Prop := ∀ e ∈ l, (∀ c ∈ e.key, fit c.n) ∧ (∀ c ∈ e.vals, fit c.n) ∧ fit e.w
theorem cutEs_fine {l : List Ent} (h : EFits l) : ∀ e ∈ cutEs l, EntFine e := fun e he => by
  obtain ⟨y, hy, rfl⟩ := List.mem_map.1 he
  obtain ⟨h1, h2, h3⟩ := h y (List.mem_of_mem_take hy)
  exact ⟨shortRow_ok h1, h3, (shortRow_ok h2).fits⟩
theorem cutEs_next {l : List Ent} {k : Nat} (h : k < l.length) : (l.take (k + 1)).map cutE = (l.take k).map cutE ++ [⟨shortRow l[k].key, shortRow l[k].vals, l[k].w⟩] := by
  rw [List.take_succ_eq_append_getElem h, List.map_append]
  rfl

theorem entInfo : (Tryz.prog.info? 51).map (fun i => (i.zero, i.size, i.bytes)) = some (some (.agg #[.slice none 0 0, .slice none 0 0, .int .i64 0]), 3, 56) := by kernel_rfl
theorem step_push_ent {o : Oper} {a : Act} {K : Act → World → Prop} {Q : Exit → Act → World → Prop} (w : World) (s x : Operand)
    (ho : o.op = .call { callee := .builtin .append, args := #[s, x], argTypes := #[31, 31] })
    (base : Nat) (v : Value) (l : List Ent) (hs : a.eval s = v) (hown : EntsOwn 51 65 base w v l)
    (g cap : Nat) (kv vv : Value) (e : Ent) (hx : a.eval x = .slice (some ⟨g, 0, none⟩) 1 cap)
    (h0 : w.cell? ⟨g, 0, none⟩ = some kv) (h1 : w.cell? ⟨g, 1, none⟩ = some vv) (h2 : w.cell? ⟨g, 2, none⟩ = some (.int .i64 e.w)) (hk : SlT 65 base w kv e.key.length (rowVals e.key)) (hv : SlT 65 base w vv e.vals.length (rowVals e.vals))
    (hlen : l.length + 1 ≤ 2097152) (hbase : base ≤ w.heap.size)
    (h : ∀ v' w', EntsOwn 51 65 base w' v' (l ++ [e]) → Kept 51 base w w' → K (a.put o.dst v') w') : o.wp Tryz.prog a w K Q := by
  obtain ⟨i0, hi, hz0, hz1, hz2⟩ := info_parts entInfo
  obtain ⟨vs, e1, e2, e3⟩ := hown
  obtain ⟨A, cp, rfl, _⟩ := id hk
  obtain ⟨B, cq, rfl, _⟩ := id hv
  refine wp_append_own w s x 31 ho base 51 i0 (.agg #[.slice none 0 0, .slice none 0 0, .int .i64 0]) 3 56 Tryz.underlying31 hi hz0 hz1 hz2 rfl (by omega) v l.length (entVals vs l) hs e2
    ⟨g, 0, none⟩ 1 cap [.slice A e.key.length cp, .slice B e.vals.length cq, .int .i64 e.w] hx rfl ?_ ?_ (by unfold maxLen; omega) (by omega) hbase ?_
  · intro j u hu
    match j, hu with
    | 0, hu => simp at hu; subst hu; exact h0
    | 1, hu => simp at hu; subst hu; simpa [Addr.add] using h1
    | 2, hu => simp at hu; subst hu; simpa [Addr.add] using h2
    | j + 3, hu => simp at hu
  · intro u hu
    simp at hu
    rcases hu with rfl | rfl | rfl <;> rfl
  · intro v' w' own' hg _
    have hK := Kept.of_grown e2 hg hbase
    refine h v' w' ⟨vs ++ [(.slice A e.key.length cp, .slice B e.vals.length cq)], by simp [e1], ?_, ?_⟩ hK
    · rw [entVals_append vs l _ _ e1, List.length_append]
      exact own'
    · intro i hi hi'
      rcases Nat.lt_or_ge i l.length with hlt | hge
      · have : i < vs.length := by omega
        rw [List.getElem_append_left this]
        simp only [List.getElem_append_left hlt]
        exact ⟨hK.slT (e3 i hlt this).1 (by decide), hK.slT (e3 i hlt this).2 (by decide)⟩
      · have : i = l.length := by simp at hi; omega
        subst this
        simp only [List.getElem_append_right (Nat.le_refl _), Nat.sub_self, List.getElem_cons_zero]
        rw [List.getElem_append_right (by omega)]
        simp only [e1, Nat.sub_self, List.getElem_cons_zero]
        exact ⟨hK.slT hk (by decide), hK.slT hv (by decide)⟩
/-- new entries are handed back -/
def NewEnts (w0 : World) (l : List Ent) (e : Ending) (w' : World) : Prop :=
  ∃ v, e = .returned v ∧ EntsT 51 65 w0.heap.size w' v l ∧ Old w0 w'

set_option maxRecDepth 100000 in
set_option maxHeartbeats 2000000 in
theorem cut_run (v : Value) (l : List Ent) (w : World) (hl : EntsIs w v l) : Calls Tryz.prog 11 #[v] w (NewEnts w (cutEs l)) := by
  obtain ⟨A, ca, us, vs, rfl, hla, hma, hul, hvl, hur, hvr, ha⟩ := hl.open_
  unfold maxLen at hma
  have HUR := Lib.hid hur
  have HVR := Lib.hid hvr
  clear hur hvr hl
  go_enter Tryz.func11, Tryz.ntmps11
  go_wp2_with fail
  go_loopw [3, 4] (fun o i wr => ∃ k : Nat, i = .int .i64 k ∧ k ≤ l.length ∧ k ≤ 12 ∧ Hid (EntsOwn 51 65 w.heap.size wr o ((l.take k).map cutE)) ∧ Old w wr) (fun _ i _ => l.length - (intOf i).toNat)
  case atStart => exact ⟨0, rfl, by omega, by omega, hide (EntsOwn.nil_ _), Old.refl _⟩
  case round =>
    obtain ⟨k, rfl, hk, hk12, HO, hbl⟩ := hrel
    by_cases hlt : k < l.length
    · by_cases h12 : k < 12
      · have hku : k < us.length := by omega
        have hkv : k < vs.length := by omega
        obtain ⟨b1, o1, rfl, hc1⟩ := ha.resolve_left (by omega)
        obtain ⟨x0, x1, x2⟩ := hc1 k hlt hku hkv
        have hx0 : ∀ w', Old w w' → w'.cell? ⟨b1, o1 + k * 3, none⟩ = some us[k] := fun w' h => h.cell x0
        have hx1 : ∀ w', Old w w' → w'.cell? ⟨b1, o1 + k * 3 + 1, none⟩ = some vs[k] := fun w' h => h.cell x1
        have hx2 : ∀ w', Old w w' → w'.cell? ⟨b1, o1 + k * 3 + 2, none⟩ = some (.int .i64 l[k].w) := fun w' h => h.cell x2
        obtain ⟨q, hq⟩ : ∃ q, Hid (shortRow l[k].key = q) := ⟨_, hide rfl⟩
        obtain ⟨p, hp⟩ : ∃ p, Hid (shortRow l[k].vals = p) := ⟨_, hide rfl⟩
        have HC := hide (show ∀ w', Old w w' → Calls Tryz.prog 30 #[us[k]] w' fun e w2 => ∃ A cp, e = .returned (.slice A q.length cp) ∧ SlT 65 w.heap.size w2 (.slice A q.length cp) q.length (rowVals q) ∧ Old w' w2 from fun w' h => by
          have := (short_run _ _ _ ((HUR.out k hlt hku).old h)).mono fun _ _ hn => NewRow.form hn h.size
          rw [hq.out] at this
          exact this)
        have HD := hide (show ∀ w', Old w w' → Calls Tryz.prog 30 #[vs[k]] w' fun e w2 => ∃ A cp, e = .returned (.slice A p.length cp) ∧ SlT 65 w.heap.size w2 (.slice A p.length cp) p.length (rowVals p) ∧ Old w' w2 from fun w' h => by
          have := (short_run _ _ _ ((HVR.out k hlt hkv).old h)).mono fun _ _ hn => NewRow.form hn h.size
          rw [hp.out] at this
          exact this)
        obtain ⟨uk, huk⟩ : ∃ uk, us[k] = uk := ⟨_, rfl⟩
        obtain ⟨vk, hvk⟩ : ∃ vk, vs[k] = vk := ⟨_, rfl⟩
        rw [huk] at HC
        rw [hvk] at HD
        simp only [huk] at hx0
        simp only [hvk] at hx1
        have HN := hide (cutEs_next hlt)
        rw [hq.out, hp.out] at HN
        have hpush : ((l.take k).map cutE).length + 1 ≤ 2097152 := by simp; omega
        clear ha hc1 x0 x1 x2 hq hp huk hvk
        go_wp2_with fail
        go_region_held3 (fun w' => Old w w')
          (first | (exact Old.drew hbl) | (exact Old.alloc (by assumption) _) | (exact Old.trans (by assumption) (by assumption)) | (exact Kept.old (by assumption) (by assumption) (Nat.le_refl _)))
          (first
            | (go_at_call 30; (with_reducible refine (HC.out _ (by assumption)).mono ?_); rintro e w1 ⟨A1, c1, rfl, hr1, hb1⟩)
            | (go_at_call 30; (with_reducible refine (HD.out _ (by assumption)).mono ?_); rintro e w3 ⟨A2, c2, rfl, hr2, hb2⟩)
            | (refine step_push_ent _ _ _ rfl w.heap.size _ ((l.take k).map cutE) rfl (HO.out.old (Old.trans (Old.trans (Old.trans (Old.drew (Old.refl _)) hb1) hb2) (Old.alloc (Old.refl _) _))) _ _ (.slice A1 q.length c1) (.slice A2 p.length c2) ⟨q, p, l[k].w⟩ rfl (by go_simp) (by go_simp) (by go_simp) (SlT.old hr1 (Old.trans hb2 (Old.alloc (Old.refl _) _))) (SlT.old hr2 (Old.alloc (Old.refl _) _)) hpush (Below.size (w := w) (by assumption)) ?_; intro v' w2 own2 kept2)
            | (fail "none"))
        go_wp2_with fail
        go_roundw
        case rel => exact ⟨k + 1, by go_num, by omega, by omega, hide (by rw [HN.out]; exact own2), by assumption⟩
        case measure => simp [intOf]; omega
      · have HS := HO.out
        rw [show l.take k = l.take 12 by rw [show k = 12 by omega]] at HS
        have H3 := hide HS
        clear HS
        go_wp2_with fail
        go_ret
        exact ⟨_, rfl, H3.out.t, hbl⟩
    · have HS := HO.out
      rw [show l.take k = l.take 12 by rw [List.take_of_length_le (by omega), List.take_of_length_le (by omega)]] at HS
      have H3 := hide HS
      clear HS
      go_wp2_with fail
      go_ret
      exact ⟨_, rfl, H3.out.t, hbl⟩
end Go.Proofs.YtmfbblcipakaiaaGreatDoor

/-! ### The statements' small parts: entries and rows made, applied. -/
namespace Go.Proofs.YtmfbblcipakaiaaGreatDoor
open Go.RowKit

theorem delta_len {K S : Nat} {f g : Gf} {z : List Item} (h : Delta K S f g z) : ∀ x ∈ z, x.row.length ≤ K + (S + 1) := by
  intro x hx
  have h1 := wOf_mem h.ok.1 hx
  rw [h.wts] at h1
  have h2 := h.ok.2 x hx
  have key : ∀ f : Gf, rowW K S f x.row ≠ 0 → x.row.length ≤ K + (S + 1) := fun f hf => by
    unfold rowW at hf
    split at hf
    · rename_i hh
      rw [hh.2, rowOf_length]
      have : (x.row.take K).length ≤ K := by simp; omega
      omega
    · exact absurd rfl hf
  by_cases hg : rowW K S g x.row = 0
  · exact key f (by omega)
  · exact key g hg
/-- what changes, reckoned -/
theorem delta_eval {K S : Nat} {f : Gf} {l : List Ent} {want : List Item} (ks : List (List Cell)) (hn : ks.Nodup) (hk : ∀ k ∈ ks, k.length = K) (hs : ∀ e ∈ l, e.key ∈ ks) (he : appErr K S f l = 0) (hz : normOut (bothAll S f (gAdd f l) ks) = want) : Delta K S f (appF K S f l) want := by
  have hF : appF K S f l = gAdd f l := by unfold appF; rw [if_pos he]
  rw [hF, ← hz]
  exact (both_delta hn hk (fun k hk i => by
    unfold gAdd
    rw [tot_none (fun e he hh => hk (by rw [← hh]; exact hs e he))]
    omega)).2
theorem delta_err {K S : Nat} {f : Gf} {l : List Ent} (he : appErr K S f l ≠ 0) : Delta K S f (appF K S f l) [] := by
  have hF : appF K S f l = f := by unfold appF; rw [if_neg he]
  rw [hF]
  exact Delta.none_ K S f
theorem rows_eval {K S : Nat} {f : Gf} {want : List Item} (ks : List (List Cell)) (hn : ks.Nodup) (hk : ∀ k ∈ ks, k.length = K) (hs : ∀ k, f k 0 ≠ 0 → k ∈ ks) (hz : normOut (seenAll S f ks 1) = want) : RowsZ K S f want := by
  rw [← hz]
  exact (seen_rows hn hk hs).2
theorem eq_true (va vb : Value) (a : List Item) (w : World) (ha : ItemsIs w va a) (hb : ItemsIs w vb a) :
    Calls Tryz.prog 16 #[va, vb] w fun x w' => x = .returned (.bool true) ∧ Old w w' := by
  have := eqItems va vb a a w ha hb
  simpa [sameItems] using this

/-! ### slices of few elements -/
theorem ents_lit {w : World} {g n : Nat} {cs : Array Value} {T : TypeId} {f : Nat × Nat} (h : w.heap[g]? = some (.cells cs T f)) {vs : List (Value × Value)} {l : List Ent} (hl : vs.length = l.length) (hc : cs.toList = entVals vs l) (hn : n = l.length) (hm : n ≤ 1000) (hr : ∀ i, (h : i < l.length) → (h' : i < vs.length) → RowIs w vs[i].1 l[i].key ∧ RowIs w vs[i].2 l[i].vals) :
    EntsIs w (.slice (some ⟨g, 0, none⟩) n n) l := by
  subst hn
  refine ⟨vs, hl, ⟨_, _, rfl, Nat.le_refl _, by unfold maxLen; omega, fun _ => ⟨g, 0, rfl, fun j u hu => ?_⟩⟩, hr⟩
  rw [cell_of_heap h, Nat.zero_add]
  rw [← hc] at hu
  simpa using hu
theorem items_lit {w : World} {g n : Nat} {cs : Array Value} {T : TypeId} {f : Nat × Nat} (h : w.heap[g]? = some (.cells cs T f)) {vs : List Value} {l : List Item} (hl : vs.length = l.length) (hc : cs.toList = itemVals vs l) (hn : n = l.length) (hm : n ≤ 1000) (hr : ∀ i, (h : i < l.length) → (h' : i < vs.length) → RowIs w vs[i] l[i].row) :
    ItemsIs w (.slice (some ⟨g, 0, none⟩) n n) l := by
  subst hn
  refine ⟨vs, hl, ⟨_, _, rfl, Nat.le_refl _, by unfold maxLen; omega, fun _ => ⟨g, 0, rfl, fun j u hu => ?_⟩⟩, hr⟩
  rw [cell_of_heap h, Nat.zero_add]
  rw [← hc] at hu
  simpa using hu
theorem row_lit {w : World} {g n : Nat} {cs : Array Value} {T : TypeId} {f : Nat × Nat} (h : w.heap[g]? = some (.cells cs T f)) {r : List Cell} (hc : cs.toList = rowVals r) (hn : n = r.length) (hm : n ≤ 1000) : RowIs w (.slice (some ⟨g, 0, none⟩) n n) r := by
  subst hn
  refine ⟨_, _, rfl, Nat.le_refl _, by unfold maxLen; omega, fun _ => ⟨g, 0, rfl, fun j u hu => ?_⟩⟩
  rw [cell_of_heap h, Nat.zero_add]
  rw [← hc] at hu
  simpa using hu

/-! ### the statements' makers -/
def txC (s : ByteArray) : Cell := ⟨false, 0, s⟩
def nuC : Cell := ⟨true, 0, ⟨#[]⟩⟩
def enE (s : ByteArray) (n w : Int) : Ent := ⟨[txC s], [numCell n], w⟩
def noE (s : ByteArray) (w : Int) : Ent := ⟨[txC s], [nuC], w⟩
def rwI (s : ByteArray) (c t w : Int) : Item := ⟨[txC s, numCell c, numCell t], w⟩
/-- an entry is handed back -/
def EntPost (w : World) (e : Ent) (x : Ending) (w' : World) : Prop :=
  ∃ a b, x = .returned (.agg #[.slice (some ⟨a, 0, none⟩) 1 1, .slice (some ⟨b, 0, none⟩) 1 1, .int .i64 e.w]) ∧ RowIs w' (.slice (some ⟨a, 0, none⟩) 1 1) e.key ∧ RowIs w' (.slice (some ⟨b, 0, none⟩) 1 1) e.vals ∧ Old w w'
theorem heap3 (w : World) (a b c : Obj) : (((w.alloc a).alloc b).alloc c).heap[w.heap.size + 1]? = some b ∧ (((w.alloc a).alloc b).alloc c).heap[w.heap.size + 2]? = some c := by
  have h1 := (Old.alloc (Old.refl ((w.alloc a).alloc b)) c).heap (heap_alloc_at (w := w.alloc a) b)
  have h2 := heap_alloc_at (w := (w.alloc a).alloc b) c
  exact ⟨by simpa using h1, by simpa using h2⟩
theorem heap2 (w : World) (a b : Obj) : ((w.alloc a).alloc b).heap[w.heap.size + 1]? = some b := by
  have h2 := heap_alloc_at (w := w.alloc a) b
  simpa using h2
set_option maxRecDepth 100000 in
theorem entry_run (s : ByteArray) (n wt : Int) (w : World) : Calls Tryz.prog 28 #[.string s, .int .i64 n, .int .i64 wt] w (EntPost w (enE s n wt)) := by
  go_enter Tryz.func28, Tryz.ntmps28
  go_wp2_with fail
  refine bodyPost_ret (v := .agg #[.slice (some ⟨w.heap.size + 1, 0, none⟩) 1 1, .slice (some ⟨w.heap.size + 2, 0, none⟩) 1 1, .int .i64 wt]) (by simp [results, Tryz.results28, go_sem]) rfl ?_
  exact ⟨_, _, rfl, row_lit (heap3 _ _ _ _).1 rfl rfl (by omega), row_lit (heap3 _ _ _ _).2 rfl rfl (by omega), (((Old.refl w).alloc _).alloc _).alloc _⟩
set_option maxRecDepth 100000 in
theorem no_run (s : ByteArray) (wt : Int) (w : World) : Calls Tryz.prog 29 #[.string s, .int .i64 wt] w (EntPost w (noE s wt)) := by
  go_enter Tryz.func29, Tryz.ntmps29
  go_wp2_with fail
  refine bodyPost_ret (v := .agg #[.slice (some ⟨w.heap.size + 1, 0, none⟩) 1 1, .slice (some ⟨w.heap.size + 2, 0, none⟩) 1 1, .int .i64 wt]) (by simp [results, Tryz.results29, go_sem]) rfl ?_
  exact ⟨_, _, rfl, row_lit (heap3 _ _ _ _).1 rfl rfl (by omega), row_lit (heap3 _ _ _ _).2 rfl rfl (by omega), (((Old.refl w).alloc _).alloc _).alloc _⟩
/-- an item is handed back -/
def ItPost (w : World) (i : Item) (x : Ending) (w' : World) : Prop :=
  ∃ a n, x = .returned (.agg #[.slice (some ⟨a, 0, none⟩) n n, .int .i64 i.w]) ∧ RowIs w' (.slice (some ⟨a, 0, none⟩) n n) i.row ∧ Old w w'
set_option maxRecDepth 100000 in
theorem rw_run (s : ByteArray) (c t wt : Int) (w : World) : Calls Tryz.prog 49 #[.string s, .int .i64 c, .int .i64 t, .int .i64 wt] w (ItPost w (rwI s c t wt)) := by
  go_enter Tryz.func49, Tryz.ntmps49
  go_wp2_with fail
  refine bodyPost_ret (v := .agg #[.slice (some ⟨w.heap.size + 1, 0, none⟩) 3 3, .int .i64 wt]) (by simp [results, Tryz.results49, go_sem]) rfl ?_
  exact ⟨_, _, rfl, row_lit (heap2 _ _ _) rfl rfl (by omega), ((Old.refl w).alloc _).alloc _⟩

/-- an Apply, and what it is to answer -/
def ApdPost (w : World) (g bm K S m : Nat) (f : Gf) (l : List Ent) (x : Ending) (w' : World) : Prop :=
  x = .returned (.bool true) ∧ (∃ B', GIs w' g bm K S (m + l.length) (appF K S f l) B') ∧ Chg (fun b => b = bm) w w'
theorem EntsIs.turn {w w' : World} {v : Value} {l : List Ent} {bm : Nat} (h : EntsIs w v l) (c : Chg (fun b => b = bm) w w') {P : Program} {k n : Nat} {M : ByteArray → Option Value} (hm : MapIs P k w bm n M) : EntsIs w' v l :=
  h.chg c (fun b cs T f hh e => by subst e; exact map_ne hh hm rfl)
theorem ItemsIs.turn {w w' : World} {v : Value} {l : List Item} {bm : Nat} (h : ItemsIs w v l) (c : Chg (fun b => b = bm) w w') {P : Program} {k n : Nat} {M : ByteArray → Option Value} (hm : MapIs P k w bm n M) : ItemsIs w' v l :=
  h.chg c (fun b cs T f hh e => by subst e; exact map_ne hh hm rfl)
theorem ItemsT.turn {tI tC lo : Nat} {w w' : World} {v : Value} {l : List Item} {bm : Nat} (h : ItemsT tI tC lo w v l) (c : Chg (fun b => b = bm) w w') {P : Program} {k n : Nat} {M : ByteArray → Option Value} (hm : MapIs P k w bm n M) : ItemsT tI tC lo w' v l :=
  h.chg c (fun b cs T f _ hh e => by subst e; exact map_ne hh hm rfl)
set_option maxRecDepth 100000 in
set_option maxHeartbeats 1000000 in
theorem applied_run (g bm K S m : Nat) (f : Gf) (B : Nat → Prop) (v wv : Value) (l : List Ent) (want : List Item) (ev : Int) (w : World) (hG : GIs w g bm K S m f B) (hKK : K ≤ 64) (hS : S ≤ 64) (hm : m ≤ 20000) (hl : EntsIs w v l) (hn : l.length ≤ 5000) (hfine : ∀ e ∈ l, EntFine e) (hp : PowTab w)
    (hw : ItemsIs w wv want) (hd : Delta K S f (appF K S f l) want) (he : appErr K S f l = ev) :
    Calls Tryz.prog 48 #[.pointer (some ⟨g, 0, none⟩), .int .i64 ev, v, wv] w (ApdPost w g bm K S m f l) := by
  have CA := hide (apply_run g bm K S m f B v l w hG hKK hS hm hl hn hfine hp)
  obtain ⟨M, hM⟩ := hG.map
  have HM := hide hM.map
  have HW := hide hw
  have HD := hide hd
  have HE := hide he
  obtain ⟨A, ca, -, -, rfl, -⟩ := hl.open_
  obtain ⟨A2, ca2, -, rfl, -⟩ := hw.open_
  clear hG hM hl hfine hp hw hd he
  go_enter Tryz.func48, Tryz.ntmps48
  go_wp2_with fail
  refine CA.out.mono ?_
  rintro e w1 ⟨h1, out, z, rfl, -, -, hit, hz, -, hG1, hc⟩
  have hzw : z = want := hz.unique HD.out
  subst hzw
  rw [HE.out]
  have CE := hide (eq_true out _ z w1 hit.is (HW.out.turn hc HM.out))
  have HG1 := hide hG1
  have HC := hide hc
  obtain ⟨vs0, -, ⟨Ao, co, rfl, -⟩, -⟩ := id hit
  clear hit hz hG1 hc
  go_wp2_with fail
  refine CE.out.mono ?_
  rintro e w2 ⟨rfl, h2⟩
  go_wp2_with fail
  go_ret
  exact ⟨rfl, ⟨_, HG1.out.old h2⟩, HC.out.step h2⟩
end Go.Proofs.YtmfbblcipakaiaaGreatDoor

/-! ### What the chapter's examples come to. -/
namespace Go.Proofs.YtmfbblcipakaiaaGreatDoor
open Go.RowKit

def sA : ByteArray := ⟨#[97]⟩
def sB : ByteArray := ⟨#[98]⟩
def most : Int := 9223372036854775807
def wl1 : List Ent := [enE sA 5 1, enE sA 2 1, noE sB 1]
def wl2 : List Ent := [enE sA 5 (-1), enE sA 5 1]
def wl3 : List Ent := [noE sB (-1)]
def wl4 : List Ent := [enE sA 2 (-1), enE sA 9 1]
def wl5 : List Ent := [enE sA most 1]
def wl6 : List Ent := [enE sA most 1, enE sA most (-1)]
def wl7 : List Ent := [⟨[⟨false, 0, ⟨#[]⟩⟩, ⟨false, 0, ⟨#[]⟩⟩], [⟨false, 0, ⟨#[]⟩⟩], 1⟩]
def ww1 : List Item := [rwI sA 2 7 1, rwI sB 1 0 1]
def ww3 : List Item := [rwI sB 1 0 (-1)]
def ww4 : List Item := [rwI sA 2 7 (-1), rwI sA 2 14 1]
def wwr : List Item := [rwI sA 2 14 1]
def wkeys : List (List Cell) := [[txC sA], [txC sB]]
theorem wkeys_nodup : wkeys.Nodup := by decide
theorem wkeys_len : ∀ k ∈ wkeys, k.length = 1 := by decide
/-- an Apply of the examples goes well -/
structure WOk (L l : List Ent) (want : List Item) : Prop where
  err : appErr 1 1 (gAdd gZero L) l = 0
  delta : Delta 1 1 (gAdd gZero L) (appF 1 1 (gAdd gZero L) l) want
  next : appF 1 1 (gAdd gZero L) l = gAdd gZero (L ++ l)
theorem WOk.of {L l : List Ent} {want : List Item} (he : appErr 1 1 (gAdd gZero L) l = 0) (hs : ∀ e ∈ l, e.key ∈ wkeys) (hz : normOut (bothAll 1 (gAdd gZero L) (gAdd (gAdd gZero L) l) wkeys) = want) : WOk L l want :=
  ⟨he, delta_eval wkeys wkeys_nodup wkeys_len hs he hz, by unfold appF; rw [if_pos he, gAdd_append]⟩
theorem wok1 : WOk [] wl1 ww1 := .of (by kernel_rfl) (by decide) (by kernel_rfl)
theorem wok2 : WOk wl1 wl2 [] := .of (by kernel_rfl) (by decide) (by kernel_rfl)
theorem wok3 : WOk (wl1 ++ wl2) wl3 ww3 := .of (by kernel_rfl) (by decide) (by kernel_rfl)
theorem wok4 : WOk (wl1 ++ wl2 ++ wl3) wl4 ww4 := .of (by kernel_rfl) (by decide) (by kernel_rfl)
def wL4 : List Ent := wl1 ++ wl2 ++ wl3 ++ wl4
theorem wok6 : WOk wL4 wl6 [] := .of (by kernel_rfl) (by decide) (by kernel_rfl)
theorem wbad5 : appErr 1 1 (gAdd gZero wL4) wl5 = 50 := by kernel_rfl
theorem wbad7 : appErr 1 1 (gAdd gZero (wL4 ++ wl6)) wl7 = 2 := by kernel_rfl
theorem wrows_cov {L : List Ent} (h : ∀ e ∈ L, e.key ∈ wkeys) : ∀ k, gAdd gZero L k 0 ≠ 0 → k ∈ wkeys := fun k hk => by
  by_cases hm : ∃ e ∈ L, e.key = k
  · obtain ⟨e, he, rfl⟩ := hm
    exact h e he
  · exact absurd (by
      unfold gAdd
      rw [tot_none (fun e he hh => hm ⟨e, he, hh⟩)]
      rfl) hk
theorem wrows4 : RowsZ 1 1 (gAdd gZero wL4) wwr := rows_eval wkeys wkeys_nodup wkeys_len (wrows_cov (by decide)) (by kernel_rfl)
theorem wrows6 : RowsZ 1 1 (gAdd gZero (wL4 ++ wl6)) wwr := rows_eval wkeys wkeys_nodup wkeys_len (wrows_cov (by decide)) (by kernel_rfl)
theorem tx_ok (s : ByteArray) (h : s.size ≤ 100) : KeyOk [txC s] := ⟨by simp, by simp [txC, fit], by simpa [txC] using h⟩
theorem en_fine (s : ByteArray) (n w : Int) (h : s.size ≤ 100) (hn : fit n) (hw : fit w) : EntFine (enE s n w) := ⟨tx_ok s h, hw, by simpa [enE, numCell] using hn⟩
theorem no_fine (s : ByteArray) (w : Int) (h : s.size ≤ 100) (hw : fit w) : EntFine (noE s w) := ⟨tx_ok s h, hw, by simp [noE, nuC, fit]⟩
theorem wfine1 : ∀ e ∈ wl1, EntFine e := by
  intro e he
  simp only [wl1, List.mem_cons, List.not_mem_nil, or_false] at he
  rcases he with rfl | rfl | rfl
  · exact en_fine _ _ _ (by decide) (by decide) (by decide)
  · exact en_fine _ _ _ (by decide) (by decide) (by decide)
  · exact no_fine _ _ (by decide) (by decide)
theorem wfine2 : ∀ e ∈ wl2, EntFine e := by
  intro e he
  simp only [wl2, List.mem_cons, List.not_mem_nil, or_false] at he
  rcases he with rfl | rfl <;> exact en_fine _ _ _ (by decide) (by decide) (by decide)
theorem wfine3 : ∀ e ∈ wl3, EntFine e := by
  intro e he
  simp only [wl3, List.mem_cons, List.not_mem_nil, or_false] at he
  subst he
  exact no_fine _ _ (by decide) (by decide)
theorem wfine4 : ∀ e ∈ wl4, EntFine e := by
  intro e he
  simp only [wl4, List.mem_cons, List.not_mem_nil, or_false] at he
  rcases he with rfl | rfl <;> exact en_fine _ _ _ (by decide) (by decide) (by decide)
theorem wfine5 : ∀ e ∈ wl5, EntFine e := by
  intro e he
  simp only [wl5, List.mem_cons, List.not_mem_nil, or_false] at he
  subst he
  exact en_fine _ _ _ (by decide) (by decide) (by decide)
theorem wfine6 : ∀ e ∈ wl6, EntFine e := by
  intro e he
  simp only [wl6, List.mem_cons, List.not_mem_nil, or_false] at he
  rcases he with rfl | rfl <;> exact en_fine _ _ _ (by decide) (by decide) (by decide)
theorem wfine7 : ∀ e ∈ wl7, EntFine e := by
  intro e he
  simp only [wl7, List.mem_cons, List.not_mem_nil, or_false] at he
  subst he
  exact ⟨⟨by decide, by simp [fit], by decide⟩, by decide, by simp [fit]⟩

/-! ### lists of one to three entries, of one or two items, as they are built -/
section
variable {w : World} {g a1 b1 a2 b2 a3 b3 n1 n2 : Nat} {T : TypeId} {f : Nat × Nat} {e1 e2 e3 : Ent} {i1 i2 : Item}
theorem ents1 (h : w.heap[g]? = some (.cells #[.slice (some ⟨a1, 0, none⟩) 1 1, .slice (some ⟨b1, 0, none⟩) 1 1, .int .i64 e1.w] T f))
    (k1 : RowIs w (.slice (some ⟨a1, 0, none⟩) 1 1) e1.key) (v1 : RowIs w (.slice (some ⟨b1, 0, none⟩) 1 1) e1.vals) : EntsIs w (.slice (some ⟨g, 0, none⟩) 1 1) [e1] :=
  ents_lit h (vs := [(.slice (some ⟨a1, 0, none⟩) 1 1, .slice (some ⟨b1, 0, none⟩) 1 1)]) rfl rfl rfl (by omega) (fun i hi hi' => by
    match i, hi with
    | 0, _ => exact ⟨k1, v1⟩)
theorem ents2 (h : w.heap[g]? = some (.cells #[.slice (some ⟨a1, 0, none⟩) 1 1, .slice (some ⟨b1, 0, none⟩) 1 1, .int .i64 e1.w, .slice (some ⟨a2, 0, none⟩) 1 1, .slice (some ⟨b2, 0, none⟩) 1 1, .int .i64 e2.w] T f))
    (k1 : RowIs w (.slice (some ⟨a1, 0, none⟩) 1 1) e1.key) (v1 : RowIs w (.slice (some ⟨b1, 0, none⟩) 1 1) e1.vals) (k2 : RowIs w (.slice (some ⟨a2, 0, none⟩) 1 1) e2.key) (v2 : RowIs w (.slice (some ⟨b2, 0, none⟩) 1 1) e2.vals) : EntsIs w (.slice (some ⟨g, 0, none⟩) 2 2) [e1, e2] :=
  ents_lit h (vs := [(.slice (some ⟨a1, 0, none⟩) 1 1, .slice (some ⟨b1, 0, none⟩) 1 1), (.slice (some ⟨a2, 0, none⟩) 1 1, .slice (some ⟨b2, 0, none⟩) 1 1)]) rfl rfl rfl (by omega) (fun i hi hi' => by
    match i, hi with
    | 0, _ => exact ⟨k1, v1⟩
    | 1, _ => exact ⟨k2, v2⟩)
theorem ents3 (h : w.heap[g]? = some (.cells #[.slice (some ⟨a1, 0, none⟩) 1 1, .slice (some ⟨b1, 0, none⟩) 1 1, .int .i64 e1.w, .slice (some ⟨a2, 0, none⟩) 1 1, .slice (some ⟨b2, 0, none⟩) 1 1, .int .i64 e2.w, .slice (some ⟨a3, 0, none⟩) 1 1, .slice (some ⟨b3, 0, none⟩) 1 1, .int .i64 e3.w] T f))
    (k1 : RowIs w (.slice (some ⟨a1, 0, none⟩) 1 1) e1.key) (v1 : RowIs w (.slice (some ⟨b1, 0, none⟩) 1 1) e1.vals) (k2 : RowIs w (.slice (some ⟨a2, 0, none⟩) 1 1) e2.key) (v2 : RowIs w (.slice (some ⟨b2, 0, none⟩) 1 1) e2.vals) (k3 : RowIs w (.slice (some ⟨a3, 0, none⟩) 1 1) e3.key) (v3 : RowIs w (.slice (some ⟨b3, 0, none⟩) 1 1) e3.vals) : EntsIs w (.slice (some ⟨g, 0, none⟩) 3 3) [e1, e2, e3] :=
  ents_lit h (vs := [(.slice (some ⟨a1, 0, none⟩) 1 1, .slice (some ⟨b1, 0, none⟩) 1 1), (.slice (some ⟨a2, 0, none⟩) 1 1, .slice (some ⟨b2, 0, none⟩) 1 1), (.slice (some ⟨a3, 0, none⟩) 1 1, .slice (some ⟨b3, 0, none⟩) 1 1)]) rfl rfl rfl (by omega) (fun i hi hi' => by
    match i, hi with
    | 0, _ => exact ⟨k1, v1⟩
    | 1, _ => exact ⟨k2, v2⟩
    | 2, _ => exact ⟨k3, v3⟩)
theorem items1 (h : w.heap[g]? = some (.cells #[.slice (some ⟨a1, 0, none⟩) n1 n1, .int .i64 i1.w] T f)) (k1 : RowIs w (.slice (some ⟨a1, 0, none⟩) n1 n1) i1.row) : ItemsIs w (.slice (some ⟨g, 0, none⟩) 1 1) [i1] :=
  items_lit h (vs := [.slice (some ⟨a1, 0, none⟩) n1 n1]) rfl rfl rfl (by omega) (fun i hi hi' => by
    match i, hi with
    | 0, _ => exact k1)
theorem items2 (h : w.heap[g]? = some (.cells #[.slice (some ⟨a1, 0, none⟩) n1 n1, .int .i64 i1.w, .slice (some ⟨a2, 0, none⟩) n2 n2, .int .i64 i2.w] T f)) (k1 : RowIs w (.slice (some ⟨a1, 0, none⟩) n1 n1) i1.row) (k2 : RowIs w (.slice (some ⟨a2, 0, none⟩) n2 n2) i2.row) : ItemsIs w (.slice (some ⟨g, 0, none⟩) 2 2) [i1, i2] :=
  items_lit h (vs := [.slice (some ⟨a1, 0, none⟩) n1 n1, .slice (some ⟨a2, 0, none⟩) n2 n2]) rfl rfl rfl (by omega) (fun i hi hi' => by
    match i, hi with
    | 0, _ => exact k1
    | 1, _ => exact k2)
end
end Go.Proofs.YtmfbblcipakaiaaGreatDoor
