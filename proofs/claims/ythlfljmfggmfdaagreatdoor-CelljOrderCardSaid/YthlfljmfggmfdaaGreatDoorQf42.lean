/-  -/
import Derived.Test.YthlfljmfggmfdaaGreatDoorQf41
import Derived.Test.YthlfljmfggmfdaaGreatDoorQf10
import Derived.Deep.RegionLaw
import Derived.Laws.EntriesVeiled
/-! ###  -/
namespace Go.Proofs.YthlfljmfggmfdaaGreatDoor
open Go.RowKit
structure PutIs (rb ob sb g C base : Nat) (w : World) (acc : List Nd) : Prop where
 box : w.cell? ⟨ob, 0, none⟩ = some (.slice (some ⟨g, 0, none⟩) acc.length C)
 free : w.frozen? ⟨ob, 0, none⟩ = false
 own : NodesOwn base w (.slice (some ⟨g, 0, none⟩) acc.length C) acc
 self : w.cell? ⟨sb, 0, none⟩ = some (.func (.func 76) #[] #[.pointer (some ⟨ob, 0, none⟩), .pointer (some ⟨rb, 0, none⟩), .pointer (some ⟨sb, 0, none⟩)])
theorem PutIs.old {rb ob sb g C base : Nat} {w w' : World} {acc : List Nd} (h : PutIs rb ob sb g C base w acc) (k : Old w w') : PutIs rb ob sb g C base w' acc :=
 ⟨k.cell h.box, k.frozen h.box h.free, own_old h.own k, k.cell h.self⟩
theorem node_new (w : World) (y : Nd) (T : TypeId) : ∀ j u, y.vals[j]? = some u → (w.alloc (.cells #[.int .i64 y.kind, .string y.key, .int .i64 y.n, .string y.s, .int .i64 y.size] T)).drew.cell? ((⟨w.heap.size, 0, none⟩ : Addr).add j) = some u := by
 intro j u h
 have hadd : (⟨w.heap.size, 0, none⟩ : Addr).add j = ⟨w.heap.size, j, none⟩ := by unfold Addr.add; split <;> simp_all
 rw [hadd]
 refine (cell_of_heap (w := w.alloc _) (heap_alloc_new w _)).trans ?_
 rw [← Array.getElem?_toList]
 exact h
theorem region_push_room {ops : Array Oper} {E : Prop} {o : Oper} {a : Act} {K : Act → World → Prop} {Q : Exit → Act → World → Prop} (w : World) (s x : Operand) (hgd : o.guard = none)
 (ho : o.op = .call { callee := .builtin .append, args := #[s, x], argTypes := #[24, 24] })
 (base g C : Nat) (acc : List Nd) (hs : a.eval s = .slice (some ⟨g, 0, none⟩) acc.length C) (hown : NodesOwn base w (.slice (some ⟨g, 0, none⟩) acc.length C) acc)
 (b cap : Nat) (y : Nd) (hx : a.eval x = .slice (some ⟨b, 0, none⟩) 1 cap) (h0 : ∀ j u, y.vals[j]? = some u → w.cell? ((⟨b, 0, none⟩ : Addr).add j) = some u)
 (hroom : acc.length + 1 ≤ C) (hlen : acc.length + 1 ≤ 4194304) (hbase : base ≤ w.heap.size)
 (h : ∀ w', NodesOwn base w' (.slice (some ⟨g, 0, none⟩) (acc.length + 1) C) (acc ++ [y]) → w.grownBy w' (some g) → K (a.put o.dst (.slice (some ⟨g, 0, none⟩) (acc.length + 1) C)) w') :
 if Region.wanted o (yielded ops a.tmps) = true then Oper.wp Tryz.prog o a w K Q else E := by
 rw [if_pos (by simp [Region.wanted, hgd])]
 exact step_push_room w s x ho base g C acc hs hown b cap y hx h0 hroom hlen hbase h
set_option maxRecDepth 100000 in
set_option maxHeartbeats 1000000 in
theorem put_run (rb ob sb g C : Nat) (kv : Value) (t : List Nd) (w0 : World) (hrb : w0.cell? ⟨rb, 0, none⟩ = some kv) (hkv : NodesIs w0 kv t) (hl : t.length ≤ 4000) (hob : w0.heap.size ≤ ob) (hg : w0.heap.size ≤ g) (hog : ob ≠ g) (hso : sb ≠ ob) (hsg : sb ≠ g) (hC : C ≤ 4000) :
 ∀ n, ∀ (j : J) (k : Nat) (r acc : List Nd) (w : World), j.flat.length = n → j.Ok vU → t.drop k = j.flat ++ r → acc.length + n ≤ C → Old w0 w → PutIs rb ob sb g C w0.heap.size w acc →
  Calls Tryz.prog 76 #[.int .i64 k, .pointer (some ⟨ob, 0, none⟩), .pointer (some ⟨rb, 0, none⟩), .pointer (some ⟨sb, 0, none⟩)] w fun e w' =>
   e = .returned (.tuple #[]) ∧ PutIs rb ob sb g C w0.heap.size w' (acc ++ j.sort.flat) ∧ Two ob g w w' := by
 obtain ⟨A, ca, rfl, hla, hma, hcc⟩ := hkv.nodes
 unfold maxLen at hma
 intro n
 induction n using Nat.strongRecOn with
 | ind n IH =>
 intro j k r acc w hn hok hd hroom ho hP
 have hpos := flat_pos j
 rw [hn] at hpos
 obtain ⟨hkt, htk⟩ := head_flat hd
 obtain ⟨b1, o1, rfl, hc1⟩ := hcc.resolve_left (by omega)
 obtain ⟨x0, x1, x2, x3, x4⟩ := hc1 k hkt
 rw [htk, hn] at x0 x1 x2 x3 x4
 have y0 : w.cell? ⟨b1, o1 + k * 5, none⟩ = some (.int .i64 j.hd.kind) := ho.cell x0
 have y1 : w.cell? ⟨b1, o1 + k * 5 + 1, none⟩ = some (.string j.hd.key) := ho.cell x1
 have y2 : w.cell? ⟨b1, o1 + k * 5 + 2, none⟩ = some (.int .i64 j.hd.n) := ho.cell x2
 have y3 : w.cell? ⟨b1, o1 + k * 5 + 3, none⟩ = some (.string j.hd.s) := ho.cell x3
 have y4 : w.cell? ⟨b1, o1 + k * 5 + 4, none⟩ = some (.int .i64 n) := ho.cell x4
 have yr : w.cell? ⟨rb, 0, none⟩ = some (.slice (some ⟨b1, o1, none⟩) t.length ca) := ho.cell hrb
 have yb : w.cell? ⟨ob, 0, none⟩ = some (.slice (some ⟨g, 0, none⟩) acc.length C) := hP.box
 obtain ⟨m, hm⟩ : ∃ m, t.length = m := ⟨_, rfl⟩
 rw [hm] at yr hla hkt hl
 obtain ⟨m2, hm2⟩ : ∃ m, acc.length = m := ⟨_, rfl⟩
 rw [hm2] at yb
 have HKV := hide hkv
 have X0 := hide x0
 have HP := hide hP
 have HO := hide ho
 have HD := hide hd
 have HK := hide hok
 have HTK := hide htk
 have HC1 := hide hc1
 have HRB := hide hrb
 have HB := hide (show ∀ (o : Obj) (w2 : World), (w.alloc o).drew.grownBy w2 (some g) → w2.cell? ⟨ob, 0, none⟩ = some (.slice (some ⟨g, 0, none⟩) m2 C) ∧ w2.frozen? ⟨ob, 0, none⟩ = false by
  intro o w2 kg
  have hO : Old w (w.alloc o).drew := Old.drew (Old.alloc (Old.refl _) o)
  have hobw := World.block_lt_of_cell? w _ yb
  have hbk := kg.block ob (Nat.lt_of_lt_of_le hobw hO.size) (fun e => hog (by injection e))
  exact ⟨(World.cell?_of_block hbk).trans (hO.cell yb), (World.frozen?_of_block hbk).trans (hO.frozen yb HP.out.free)⟩)
 have HN := hide (show ∀ (o : Obj) (w2 : World), NodesOwn w0.heap.size w2 (.slice (some ⟨g, 0, none⟩) (acc.length + 1) C) (acc ++ [⟨j.hd.kind, j.hd.key, j.hd.n, j.hd.s, n⟩]) → (w.alloc o).drew.grownBy w2 (some g) →
  PutIs rb ob sb g C w0.heap.size (w2.setCell ⟨ob, 0, none⟩ (.slice (some ⟨g, 0, none⟩) (m2 + 1) C)) (acc ++ [⟨j.hd.kind, j.hd.key, j.hd.n, j.hd.s, n⟩]) by
  intro o w2 ow kg
  obtain ⟨c2, f2⟩ := HB.out o w2 kg
  have hO : Old w (w.alloc o).drew := Old.drew (Old.alloc (Old.refl _) o)
  have hself := (kg.cell (hO.cell HP.out.self) (fun e => hsg (by injection e)))
  refine ⟨?_, ?_, ?_, ?_⟩
  · rw [List.length_append, hm2]; exact (World.cell?_setCell_same _ _ _ c2)
  · rw [World.frozen?_setCell]; exact f2
  · rw [List.length_append]
    obtain ⟨e1, e2⟩ := ow
    refine ⟨e1, ?_⟩
    rcases e2 with ⟨h, _⟩ | ⟨g', c', cur, h1, h2, h3, h4⟩
    · cases h
    · have hgg : g = g' := by injection h1 with h1; injection h1 with h1; injection h1
      refine .inr ⟨g', c', cur, h1, h2, ?_, h4⟩
      rw [← h3]
      have : ob ≠ g' := fun e => hog (e.trans hgg.symm)
      simp [World.setCell, Array.getElem?_modify, this]
  · refine (World.cell?_of_block ?_).trans hself
    simp [World.setCell, Array.getElem?_modify, Ne.symm hso])
 have hobw := World.block_lt_of_cell? w _ yb
 have hmk : J.mk j.hd j.kids = j := by cases j; rfl
 obtain ⟨f, hf, hfm⟩ := starts_pick t j.kids (k + 1) r (by
  have := drop_flat (t := t) (a := k) (h := j.hd) (l1 := []) (l2 := j.kids) (r := r) (by rw [List.nil_append, hmk]; exact hd)
  simpa [J.flats] using this)
 have HF := hide hf
 have HFM := hide hfm
 have HKT := hide (show ∀ p ∈ starts (k + 1) j.kids, p < t.length from fun p hp => (hfm p hp).1)
 have HSL := hide (show (starts (k + 1) j.kids).length ≤ 4194304 by
  rw [starts_length]
  have h1 := len_flats j.kids
  have h2 : (J.flat (.mk j.hd j.kids)).length = n := by rw [hmk, hn]
  rw [flat_mk, List.length_cons] at h2
  have h3 := congrArg List.length hd
  rw [List.length_append, List.length_drop] at h3
  omega)
 clear hf hfm
 clear hcc hc1 hkv hrb htk x0 x1 x2 x3 x4 hP hd hok
 go_enter Tryz.func76, Tryz.ntmps76
 go_wp2_with fail
 go_region_law (refine region_push_room _ (.tmp 8) (.tmp 13) rfl rfl w0.heap.size g C acc (by simp [Act.eval, hm2]) (own_old HP.out.own (Old.drew (Old.alloc (Old.refl _) _))) w.heap.size 1 ⟨j.hd.kind, j.hd.key, j.hd.n, j.hd.s, n⟩ (by simp [Act.eval]) (node_new w ⟨j.hd.kind, j.hd.key, j.hd.n, j.hd.s, n⟩ _) (by omega) (by omega) (HO.out.alloc _).drew.size ?_; intro w2 own2 kept2; obtain ⟨cb2, fb2⟩ := HB.out _ _ kept2)
 all_goals
  (have P3 := hide (show PutIs rb ob sb g C w0.heap.size (w2.setCell ⟨ob, 0, none⟩ (.slice (some ⟨g, 0, none⟩) (m2 + 1) C)) (acc ++ [⟨j.hd.kind, j.hd.key, j.hd.n, j.hd.s, n⟩]) from HN.out _ _ own2 kept2)
   have T3 := hide (show Two ob g w (w2.setCell ⟨ob, 0, none⟩ (.slice (some ⟨g, 0, none⟩) (m2 + 1) C)) from (((Two.refl ob g w).old (Old.drew (Old.alloc (Old.refl _) _))).grown kept2).setBox 0 _)
   generalize w2.setCell ⟨ob, 0, none⟩ (.slice (some ⟨g, 0, none⟩) (m2 + 1) C) = w3 at P3 T3 ⊢
   clear cb2 fb2 own2 kept2 HN HB
   have O3 := hide (show Old w0 w3 from Below.trans HO.out (T3.out.below HO.out.size hob hg))
   have r3 := O3.out.cell HRB.out
   have CK := hide (kids_run _ t k j.hd j.kids r w3 (HKV.out.old O3.out) (by omega) (by rw [show J.mk j.hd j.kids = j by cases j; rfl]; exact HD.out))
   rw [hm] at r3 CK
   clear y0 y1 y2 y3 y4 yr yb
   have hob3 := World.block_lt_of_cell? w3 _ P3.out.box
   have hg3 := (World.ownsRow.lt P3.out.own g rfl).2
   have HOK := hide (kid_ok HK.out)
   have k3 := O3.out.cell X0.out
   by_cases h7 : j.hd.kind = 7
   · have h7' : (j.hd.kind == 7) = true := by simp [h7]
     go_wp2_with (first
      | (go_at_call 70; refine CK.out.mono ?_; rintro e w4 ⟨v4, rfl, h4, o4⟩; have r4 := o4.cell r3; have k4 := o4.cell k3)
      | (go_at_call 77; refine (sort_any v4 (starts (k + 1) j.kids) t rb w3.heap.size _ w4 w0 HSL.out h4 (Old.trans O3.out o4) O3.out.size HRB.out HKV.out HKT.out).mono ?_; rintro e w5 ⟨rfl, ks', p1, p2, ⟨A5, c5, rfl, l5, m5, n5⟩, B5, hB5, g5⟩))
     have K5 := hide (show Old w3 w5 from Below.grown o4 g5 o4.size (fun k hk => by injection hk with hk; omega))
     have P5 := hide (P3.out.old K5.out)
     have PL := hide (show (ks'.map f).Perm j.kids by have := p1.map f; rwa [HF.out] at this)
     have MEM := hide (show ∀ p ∈ ks', p ∈ starts (k + 1) j.kids from fun p hp => p1.mem_iff.1 hp)
     have HEND := hide (show acc ++ [⟨j.hd.kind, j.hd.key, j.hd.n, j.hd.s, n⟩] ++ J.flats ((ks'.map f).map J.sort) = acc ++ j.sort.flat by rw [found_sorted vU HF.out (fun p hp => (HFM.out p hp).2.2.1) (ok_keys HK.out h7) p1 p2, sort_flat_obj h7 hn, List.append_assoc])
     have N5 := hide n5
     clear n5 p1 p2 g5 h4 o4 r4 k4 k3 r3 h7'
     unfold maxLen at m5
     go_loopw [29] (fun i wr => ∃ a : Nat, i = .int .i64 a ∧ a ≤ ks'.length ∧ Hid (PutIs rb ob sb g C w0.heap.size wr (acc ++ [⟨j.hd.kind, j.hd.key, j.hd.n, j.hd.s, n⟩] ++ J.flats (((ks'.map f).take a).map J.sort))) ∧ Hid (Two ob g w5 wr)) (fun i _ => ks'.length - (intOf i).toNat)
     case atStart => exact ⟨0, rfl, by omega, hide (by rw [List.take_zero, List.map_nil, show J.flats [] = [] by simp [J.flats], List.append_nil]; exact P5.out), hide (Two.refl ob g w5)⟩
     case round =>
      obtain ⟨a, rfl, ha, HPa, HTa⟩ := hrel
      by_cases hlt : a < ks'.length
      · obtain ⟨b5, f5, rfl, q1, q2, q3⟩ := N5.out.resolve_left (by rintro rfl; simp at hlt)
        have e5 := HTa.out.cell (q3 a hlt) (by show b5 ≠ ob; omega) (by show b5 ≠ g; omega)
        have sf := HPa.out.self
        have hmem := MEM.out _ (List.getElem_mem hlt)
        obtain ⟨z1, z2, _, r', z4⟩ := HFM.out _ hmem
        have hla2 : a < (ks'.map f).length := by simpa using hlt
        have hga : (ks'.map f)[a] = f ks'[a] := by simp
        have hroom2 := room_next PL.out hla2
        rw [hga] at hroom2
        have hk1 := flat_kids j
        have hlt2 : (f ks'[a]).flat.length < n := by have := flats_mem_le z2; omega
        have OA := hide (show Old w0 wr from Below.trans (Old.trans O3.out K5.out) (HTa.out.below (B := w0.heap.size) (Old.trans O3.out K5.out).size hob hg))
        have CALL := hide (IH _ hlt2 (f ks'[a]) ks'[a] r' _ wr rfl (HOK.out _ z2) z4 (by simp only [List.length_append, List.length_cons, List.length_nil]; omega) OA.out HPa.out)
        have HNX := hide (sorted_next hla2 (acc ++ [⟨j.hd.kind, j.hd.key, j.hd.n, j.hd.s, n⟩]))
        rw [hga] at HNX
        obtain ⟨K5a, hK5a⟩ : ∃ K, Hid (ks'[a] = K) := ⟨_, hide rfl⟩
        rw [hK5a.out] at e5 CALL
        clear q3 z1 z2 z4 hmem hroom2 hga hk1 hlt2 hla2
        go_wp2_with (refine CALL.out.mono ?_; rintro e w6 ⟨rfl, P6, T6⟩)
        go_roundw
        case rel => exact ⟨a + 1, by go_num, by omega, hide (by rw [HNX.out, hK5a.out]; exact P6), hide (HTa.out.trans T6)⟩
        case measure => simp [intOf]; omega
      · have hae : a = ks'.length := by omega
        have PE := hide (show PutIs rb ob sb g C w0.heap.size wr (acc ++ j.sort.flat) by
         have := HPa.out
         rw [hae, List.take_of_length_le (by simp), HEND.out] at this
         exact this)
        go_wp2_with fail
        go_end0
        exact ⟨rfl, PE.out, (T3.out.old K5.out).trans HTa.out⟩
   · have h7' : (j.hd.kind == 7) = false := by simp [h7]
     go_wp2_with (first | (go_at_call 70; refine CK.out.mono ?_; rintro e w5 ⟨v4, rfl, ⟨A5, c5, rfl, l5, m5, n5⟩, o4⟩; have r4 := o4.cell r3; have k4 := o4.cell k3))
     have K5 := hide o4
     have P5 := hide (P3.out.old K5.out)
     have HEND := hide (show acc ++ [⟨j.hd.kind, j.hd.key, j.hd.n, j.hd.s, n⟩] ++ J.flats (((starts (k + 1) j.kids).map f).map J.sort) = acc ++ j.sort.flat by rw [HF.out, sort_flat_not h7 hn, List.append_assoc])
     have N5 := hide (show starts (k + 1) j.kids = [] ∨ ∃ b off, A5 = some ⟨b, off, none⟩ ∧ w3.heap.size ≤ b ∧ b < w5.heap.size ∧ ∀ i, (h : i < (starts (k + 1) j.kids).length) → w5.cell? ⟨b, off + i, none⟩ = some (.int .i64 ((starts (k + 1) j.kids)[i] : Int)) by
      rcases Classical.em (starts (k + 1) j.kids = []) with e | e
      · exact .inl e
      · obtain ⟨b, off, cs, rfl, hb, hh, hc⟩ := n5 (by cases hq : starts (k + 1) j.kids with | nil => exact absurd hq e | cons _ _ => simp [intVals])
        exact .inr ⟨b, off, rfl, hb, block_lt hh, fun i hi => (cell_of_heap hh).trans (hc i _ (by simp [intVals, hi]))⟩)
     have PL := hide (show ((starts (k + 1) j.kids).map f).Perm j.kids by rw [HF.out])
     have MEM := hide (show ∀ p ∈ starts (k + 1) j.kids, p ∈ starts (k + 1) j.kids from fun p hp => hp)
     clear n5 o4 r4 k4 k3 r3 h7'
     generalize hks : starts (k + 1) j.kids = ks' at *
     clear hks
     unfold maxLen at m5
     go_loopw [29] (fun i wr => ∃ a : Nat, i = .int .i64 a ∧ a ≤ ks'.length ∧ Hid (PutIs rb ob sb g C w0.heap.size wr (acc ++ [⟨j.hd.kind, j.hd.key, j.hd.n, j.hd.s, n⟩] ++ J.flats (((ks'.map f).take a).map J.sort))) ∧ Hid (Two ob g w5 wr)) (fun i _ => ks'.length - (intOf i).toNat)
     case atStart => exact ⟨0, rfl, by omega, hide (by rw [List.take_zero, List.map_nil, show J.flats [] = [] by simp [J.flats], List.append_nil]; exact P5.out), hide (Two.refl ob g w5)⟩
     case round =>
      obtain ⟨a, rfl, ha, HPa, HTa⟩ := hrel
      by_cases hlt : a < ks'.length
      · obtain ⟨b5, f5, rfl, q1, q2, q3⟩ := N5.out.resolve_left (by rintro rfl; simp at hlt)
        have e5 := HTa.out.cell (q3 a hlt) (by show b5 ≠ ob; omega) (by show b5 ≠ g; omega)
        have sf := HPa.out.self
        have hmem := MEM.out _ (List.getElem_mem hlt)
        obtain ⟨z1, z2, _, r', z4⟩ := HFM.out _ hmem
        have hla2 : a < (ks'.map f).length := by simpa using hlt
        have hga : (ks'.map f)[a] = f ks'[a] := by simp
        have hroom2 := room_next PL.out hla2
        rw [hga] at hroom2
        have hk1 := flat_kids j
        have hlt2 : (f ks'[a]).flat.length < n := by have := flats_mem_le z2; omega
        have OA := hide (show Old w0 wr from Below.trans (Old.trans O3.out K5.out) (HTa.out.below (B := w0.heap.size) (Old.trans O3.out K5.out).size hob hg))
        have CALL := hide (IH _ hlt2 (f ks'[a]) ks'[a] r' _ wr rfl (HOK.out _ z2) z4 (by simp only [List.length_append, List.length_cons, List.length_nil]; omega) OA.out HPa.out)
        have HNX := hide (sorted_next hla2 (acc ++ [⟨j.hd.kind, j.hd.key, j.hd.n, j.hd.s, n⟩]))
        rw [hga] at HNX
        obtain ⟨K5a, hK5a⟩ : ∃ K, Hid (ks'[a] = K) := ⟨_, hide rfl⟩
        rw [hK5a.out] at e5 CALL
        clear q3 z1 z2 z4 hmem hroom2 hga hk1 hlt2 hla2
        go_wp2_with (refine CALL.out.mono ?_; rintro e w6 ⟨rfl, P6, T6⟩)
        go_roundw
        case rel => exact ⟨a + 1, by go_num, by omega, hide (by rw [HNX.out, hK5a.out]; exact P6), hide (HTa.out.trans T6)⟩
        case measure => simp [intOf]; omega
      · have hae : a = ks'.length := by omega
        have PE := hide (show PutIs rb ob sb g C w0.heap.size wr (acc ++ j.sort.flat) by
         have := HPa.out
         rw [hae, List.take_of_length_le (by simp), HEND.out] at this
         exact this)
        go_wp2_with fail
        go_end0
        exact ⟨rfl, PE.out, (T3.out.old K5.out).trans HTa.out⟩)
end Go.Proofs.YthlfljmfggmfdaaGreatDoor

/-! ###  -/
namespace Go.Proofs.YthlfljmfggmfdaaGreatDoor
open Go.RowKit
def SortedT (t ps : List Nd) : Prop := (∃ j, May t j ∧ ps = j.sort.flat) ∨ (chkT t ≠ 0 ∧ ps = [])
theorem second_heap (w2 : World) (o o' : Obj) : ((w2.alloc o).alloc o').heap[w2.heap.size + 1]? = some o' := by
 have h := heap_alloc_new (w2.alloc o) o'
 rwa [show (w2.alloc o).heap.size = w2.heap.size + 1 by simp] at h
theorem second_cell (w2 : World) (o : Obj) (x : Value) (T : TypeId) : ((w2.alloc o).alloc (.cells #[x] T)).cell? ⟨w2.heap.size + 1, 0, none⟩ = some x := (cell_of_heap (second_heap w2 o _)).trans rfl
theorem second_free (w2 : World) (o : Obj) (x : Value) (T : TypeId) : ((w2.alloc o).alloc (.cells #[x] T)).frozen? ⟨w2.heap.size + 1, 0, none⟩ = false := free_of_heap (second_heap w2 o _)
set_option maxRecDepth 100000 in
set_option maxHeartbeats 1000000 in
theorem sorted_run (v : Value) (t : List Nd) (w : World) (ht : NodesIs w v t) (hk : TextsOk t) (hT : Tabs w) :
 Calls Tryz.prog 36 #[v] w fun e w' => ∃ ps, SortedT t ps ∧ NewNodes w ps e w' := by
 have CH := hide (show ∀ w', Old w w' → Calls Tryz.prog 44 #[v] w' fun e w2 => e = .returned (.int .i64 (chkT t)) ∧ Old w' w2 from fun w' h => check_run v t w' (ht.old h) hk (hT.old h))
 have HT := hide ht
 obtain ⟨A, ca, rfl, hla, hma, hc⟩ := ht.nodes
 unfold maxLen at hma
 obtain ⟨c, hcc⟩ : ∃ c, Hid (chkT t = c) := ⟨_, hide rfl⟩
 rw [hcc.out] at CH
 clear hc ht
 go_enter Tryz.func36, Tryz.ntmps36
 by_cases h0 : c = 0
 · have h0' : (c != 0) = false := by simp [h0]
   obtain ⟨j, hj⟩ := may_of (hcc.out.trans h0)
   obtain ⟨m, hm⟩ : ∃ m, t.length = m := ⟨_, rfl⟩
   have hm4 : m ≤ 4000 := by rw [← hm]; exact hj.2.1
   rw [hm] at hla CH ⊢
   obtain ⟨i0, hi, hz0, hz1, hz2⟩ := info_parts nodeInfo
   have HMS := hide (show ∀ w1 : World, ∃ w', (Instr.makeSlice 24 (.int .i64 0) (.int .i64 (m : Int))).run Tryz.prog w1 = .ok (.slice (some ⟨w1.heap.size, 0, none⟩) 0 m) w' ∧
    w'.ownsRow w1.heap.size 36 5 (.slice (some ⟨w1.heap.size, 0, none⟩) 0 m) 0 [] ∧ w1.grownBy w' none from fun w1 =>
     run_makeSlice_owned w1 w1.heap.size 24 36 i0 _ 5 Tryz.underlying24 hi hz0 hz1 .i64 .i64 m (by omega) (by rw [hz2]; omega) (by unfold maxLen; omega) (Nat.le_refl _))
   clear hi hz0 hz1 hz2
   clear h0
   go_upto_region 6 with (refine (CH.out _ (Old.alloc (Old.refl _) _)).mono ?_; rintro e w1 ⟨rfl, o1⟩; have b1 : w1.cell? ⟨w.heap.size, 0, none⟩ = some (.slice A m ca) := Old.cell o1 ((cell_of_heap (heap_alloc_new w (.cells #[.slice A m ca] 24))).trans rfl); obtain ⟨w2, ms2, own2, g2⟩ := HMS.out w1; have sc := second_cell w2 (.cells #[.slice (some ⟨w1.heap.size, 0, none⟩) 0 m] 24) .nilFunc 114; have sf := second_free w2 (.cells #[.slice (some ⟨w1.heap.size, 0, none⟩) 0 m] 24) .nilFunc 114)
   have O3 := hide (show Old w1 ((w2.alloc (.cells #[.slice (some ⟨w1.heap.size, 0, none⟩) 0 m] 24)).alloc (.cells #[.func (.func 76) #[] #[.pointer (some ⟨w2.heap.size, 0, none⟩), .pointer (some ⟨w.heap.size, 0, none⟩), .pointer (some ⟨w2.heap.size + 1, 0, none⟩)]] 114)) from
    Old.alloc (Old.alloc (Below.grown (Old.refl w1) g2 (Nat.le_refl _) (fun k hk => by cases hk)) _) _)
   have P3 : PutIs w.heap.size w2.heap.size (w2.heap.size + 1) w1.heap.size m w1.heap.size ((w2.alloc (.cells #[.slice (some ⟨w1.heap.size, 0, none⟩) 0 m] 24)).alloc (.cells #[.func (.func 76) #[] #[.pointer (some ⟨w2.heap.size, 0, none⟩), .pointer (some ⟨w.heap.size, 0, none⟩), .pointer (some ⟨w2.heap.size + 1, 0, none⟩)]] 114)) [] := by
    have hb := heap_alloc_new w2 (.cells #[.slice (some ⟨w1.heap.size, 0, none⟩) 0 m] 24)
    have hO : ∀ o, Old (w2.alloc (.cells #[.slice (some ⟨w1.heap.size, 0, none⟩) 0 m] 24)) ((w2.alloc (.cells #[.slice (some ⟨w1.heap.size, 0, none⟩) 0 m] 24)).alloc o) := fun o => Old.alloc (Old.refl _) o
    exact ⟨(hO _).cell ((cell_of_heap hb).trans rfl), (hO _).frozen ((cell_of_heap hb).trans rfl) (free_of_heap hb), own_old own2 (Old.alloc (Old.alloc (Old.refl _) _) _), second_cell _ _ _ _⟩
   have OW := hide (Old.trans (Old.alloc (Old.refl w) _) o1)
   have hlt : w1.heap.size < w2.heap.size := (own2.lt _ rfl).2
   have HTm := HT.out
   rw [hm] at HTm
   have PR := hide (put_run w.heap.size w2.heap.size (w2.heap.size + 1) w1.heap.size m _ t w1 b1 (HTm.old OW.out) (by omega) (by omega) (Nat.le_refl _) (by omega) (by omega) (by omega) (by omega) t.length j 0 [] [] _ (by rw [hj.1.2.2]) hj.1.1 (by rw [List.drop_zero, List.append_nil]; exact hj.1.2.2) (by simp [hm]) O3.out P3)
   go_wp2_with (refine PR.out.mono ?_; rintro e w4 ⟨rfl, P4, T4⟩; have b4 := P4.box)
   go_ret
   exact ⟨_, .inl ⟨j, hj, rfl⟩, _, rfl, SlT.mono (SlT.of_own P4.own) OW.out.size, Old.trans OW.out (Below.trans O3.out (T4.below O3.out.size (by omega) (Nat.le_refl _)))⟩
 · have h0' : (c != 0) = true := by simp [h0]
   go_wp2_with (refine (CH.out _ (Old.alloc (Old.refl _) _)).mono ?_; rintro e w1 ⟨rfl, o1⟩)
   go_ret
   exact ⟨[], .inr ⟨by rw [hcc.out]; exact h0, rfl⟩, _, rfl, SlT.nil_ _, Old.trans (Old.alloc (Old.refl _) _) o1⟩
end Go.Proofs.YthlfljmfggmfdaaGreatDoor

/-! ###  -/
namespace Go.Proofs.YthlfljmfggmfdaaGreatDoor
open Go.RowKit
def SameT (a b : List Nd) (B : Bool) : Prop := ((chkT a ≠ 0 ∨ chkT b ≠ 0) ∧ B = false) ∨ ∃ ja jb, May a ja ∧ May b jb ∧ B = sameNds ja.sort.flat jb.sort.flat
theorem SortedT.good {t ps : List Nd} (h : SortedT t ps) (h0 : chkT t = 0) : ∃ j, May t j ∧ ps = j.sort.flat := by
 rcases h with h | ⟨h, _⟩
 · exact h
 · exact absurd h0 h
set_option maxRecDepth 100000 in
set_option maxHeartbeats 1000000 in
theorem same_run (va vb : Value) (a b : List Nd) (w : World) (ha : NodesIs w va a) (hb : NodesIs w vb b) (hka : TextsOk a) (hkb : TextsOk b) (hT : Tabs w) :
 Calls Tryz.prog 34 #[va, vb] w fun e w' => ∃ B, SameT a b B ∧ e = .returned (.bool B) ∧ Old w w' := by
 have CA := hide (show ∀ w', Old w w' → Calls Tryz.prog 44 #[va] w' fun e w2 => e = .returned (.int .i64 (chkT a)) ∧ Old w' w2 from fun w' h => check_run va a w' (ha.old h) hka (hT.old h))
 have CB := hide (show ∀ w', Old w w' → Calls Tryz.prog 44 #[vb] w' fun e w2 => e = .returned (.int .i64 (chkT b)) ∧ Old w' w2 from fun w' h => check_run vb b w' (hb.old h) hkb (hT.old h))
 have SA := hide (show ∀ w', Old w w' → Calls Tryz.prog 36 #[va] w' fun e w2 => ∃ ps, SortedT a ps ∧ NewNodes w' ps e w2 from fun w' h => sorted_run va a w' (ha.old h) hka (hT.old h))
 have SB := hide (show ∀ w', Old w w' → Calls Tryz.prog 36 #[vb] w' fun e w2 => ∃ ps, SortedT b ps ∧ NewNodes w' ps e w2 from fun w' h => sorted_run vb b w' (hb.old h) hkb (hT.old h))
 obtain ⟨c, hc⟩ : ∃ c, Hid (chkT a = c) := ⟨_, hide rfl⟩
 obtain ⟨d, hd⟩ : ∃ d, Hid (chkT b = d) := ⟨_, hide rfl⟩
 rw [hc.out] at CA
 rw [hd.out] at CB
 go_enter Tryz.func34, Tryz.ntmps34
 by_cases hc0 : c = 0
 · have hc' : (c == 0) = true := by simp [hc0]
   by_cases hd0 : d = 0
   · have hd' : (d == 0) = true := by simp [hd0]
     go_wp2_with (first
      | (go_at_call 44; (with_reducible refine (CA.out _ (Old.refl _)).mono ?_); rintro e w1 ⟨rfl, o1⟩)
      | (go_at_call 44; (with_reducible refine (CB.out _ o1).mono ?_); rintro e w2 ⟨rfl, o2⟩; have o3 := Old.trans o1 o2)
      | (go_at_call 36; (with_reducible refine (SA.out _ o3).mono ?_); rintro e w4 ⟨pa, hpa, va', rfl, na, o4⟩; have o5 := Old.trans o3 o4)
      | (go_at_call 36; (with_reducible refine (SB.out _ o5).mono ?_); rintro e w6 ⟨pb, hpb, vb', rfl, nb, o6⟩)
      | (go_at_call 75; refine (slices_Equal va' vb' pa pb w6 (na.sl.old o6) nb.sl).mono ?_; rintro e w7 ⟨rfl, o7⟩))
     go_ret
     obtain ⟨ja, m1, rfl⟩ := hpa.good (hc.out.trans hc0)
     obtain ⟨jb, m2, rfl⟩ := hpb.good (hd.out.trans hd0)
     exact ⟨_, .inr ⟨ja, jb, m1, m2, rfl⟩, rfl, Old.trans (Old.trans o5 o6) o7⟩
   · have hd' : (d == 0) = false := by simp [hd0]
     go_wp2_with (first
      | (go_at_call 44; (with_reducible refine (CA.out _ (Old.refl _)).mono ?_); rintro e w1 ⟨rfl, o1⟩)
      | (go_at_call 44; (with_reducible refine (CB.out _ o1).mono ?_); rintro e w2 ⟨rfl, o2⟩; have o3 := Old.trans o1 o2))
     go_ret
     exact ⟨false, .inl ⟨.inr (by rw [hd.out]; exact hd0), rfl⟩, rfl, o3⟩
 · have hc' : (c == 0) = false := by simp [hc0]
   go_wp2_with (go_at_call 44; (with_reducible refine (CA.out _ (Old.refl _)).mono ?_); rintro e w1 ⟨rfl, o1⟩)
   go_ret
   exact ⟨false, .inl ⟨.inl (by rw [hc.out]; exact hc0), rfl⟩, rfl, o1⟩
end Go.Proofs.YthlfljmfggmfdaaGreatDoor

/-! ###  -/
namespace Go.Proofs.YthlfljmfggmfdaaGreatDoor
open Go.RowKit
theorem deeps_perm {l l' : List J} (h : l.Perm l') : J.deeps l = J.deeps l' := by
 induction h with
 | nil => rfl
 | cons x _ ih => simp only [J.deeps, ih]
 | swap x y l => simp only [J.deeps]; omega
 | trans _ _ h1 h2 => exact h1.trans h2
theorem apt_sorts {l : List J} (h : AptJ l) : AptJ (J.sorts l) := by
 rw [sorts_map]
 exact List.pairwise_map.2 (h.imp fun {a b} hab => by rw [sort_key, sort_key]; exact hab)
theorem SameT.known {a b : List Nd} {ja jb : J} {B : Bool} (h : SameT a b B) (ha : May a ja) (hb : May b jb) : B = sameNds ja.sort.flat jb.sort.flat := by
 rcases h with ⟨h0, _⟩ | ⟨ja', jb', ha', hb', rfl⟩
 · rcases h0 with h0 | h0
   · exact absurd (chkT_may ha) h0
   · exact absurd (chkT_may hb) h0
 · rw [flat_inj (ha.1.2.2.symm.trans ha'.1.2.2), flat_inj (hb.1.2.2.symm.trans hb'.1.2.2)]
mutual
def J.Srt : J → Prop
 | .mk h l => (h.kind = 7 → UpJ l) ∧ J.Srts l
def J.Srts : List J → Prop
 | [] => True
 | j :: l => J.Srt j ∧ J.Srts l
end
theorem ok_apt {V : ByteArray → Bool} {h : Hd} {l : List J} (hok : J.Ok V (.mk h l)) (h7 : h.kind = 7) : AptJ l := (apt_of_keys V l [] (ok_keys (j := .mk h l) hok h7)).1
theorem ok_oks {V : ByteArray → Bool} {h : Hd} {l : List J} (hok : J.Ok V (.mk h l)) : J.Oks V l := oks_of (kid_ok hok)
theorem sort_deep : (∀ j : J, j.sort.deep = j.deep) ∧ ∀ l : List J, J.deeps (J.sorts l) = J.deeps l := by
 refine J.both ?_ ?_ ?_
 · intro h l ih
   rw [J.sort, J.deep, J.deep]
   split
   · rw [deeps_perm (ordJ_perm _), ih]
   · rw [ih]
 · rfl
 · intro j l h1 h2; simp only [J.sorts, J.deeps, h1, h2]
theorem keys_valid {V : ByteArray → Bool} : ∀ {ks had : List ByteArray}, keysOk V had ks → ∀ s ∈ ks, V s = true
 | [], _, _, _, hs => absurd hs (by simp)
 | k :: ks, had, h, s, hs => by
   obtain ⟨h1, _, h3⟩ := h
   rcases List.mem_cons.1 hs with rfl | hs
   · exact h1
   · exact keys_valid h3 s hs
theorem sort_ok {V : ByteArray → Bool} : (∀ j : J, j.Ok V → j.sort.Ok V) ∧ ∀ l : List J, J.Oks V l → J.Oks V (J.sorts l) := by
 refine J.both ?_ ?_ ?_
 · intro h l ih hok
   have hs := ih (ok_oks hok)
   have hk := hok
   rw [J.Ok] at hok
   rw [J.sort, J.Ok]
   rcases hok with ⟨h1, rfl⟩ | ⟨h1, h2, h3, h4⟩ | ⟨h1, h2, h3, h4⟩
   · refine .inl ⟨h1, ?_⟩
     split <;> simp [J.sorts, ordJ]
   · refine .inr (.inl ⟨h1, h2, ?_⟩)
     rw [if_neg (by omega)]
     refine ⟨hs, fun j hj => ?_⟩
     rw [sorts_map] at hj
     obtain ⟨x, hx, rfl⟩ := List.mem_map.1 hj
     rw [sort_key]
     exact h4 x hx
   · refine .inr (.inr ⟨h1, h2, ?_⟩)
     rw [if_pos h1]
     have hp : ((ordJ (J.sorts l)).map J.key).Perm (l.map J.key) := by
      refine ((ordJ_perm _).map J.key).trans ?_
      rw [sorts_map, List.map_map]
      have e : J.key ∘ J.sort = J.key := by funext x; exact sort_key x
      rw [e]
     refine ⟨oks_of fun j hj => oks_mem hs j ((ordJ_perm _).mem_iff.1 hj), keysOk_of (fun s h => keys_valid h4 s (hp.mem_iff.1 h)) (hp.nodup_iff.2 ?_) (by simp)⟩
     exact List.pairwise_map.2 (ok_apt hk h1)
 · intro _; simp [J.sorts, J.Oks]
 · intro j l h1 h2 hok
   simp only [J.Oks] at hok
   simp only [J.sorts, J.Oks]
   exact ⟨h1 hok.1, h2 hok.2⟩
theorem May.sorted {t : List Nd} {j : J} (h : May t j) : May j.sort.flat j.sort := by
 refine ⟨⟨sort_ok.1 j h.1.1, ?_, rfl⟩, ?_, ?_⟩
 · rw [sort_key]; exact h.1.2.1
 · rw [sort_len.1, ← h.1.2.2]; exact h.2.1
 · rw [sort_deep.1]; exact h.2.2
end Go.Proofs.YthlfljmfggmfdaaGreatDoor
