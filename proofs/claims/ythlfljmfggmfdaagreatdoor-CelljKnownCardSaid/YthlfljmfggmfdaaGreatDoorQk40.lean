/-  -/
import Derived.RangeFuncWrites
import Derived.Test.YthlfljmfggmfdaaGreatDoorQk39
import Derived.Test.YthlfljmfggmfdaaGreatDoorQk19
/-! ###  -/
namespace Go.Proofs.YthlfljmfggmfdaaGreatDoor
open Go.RowKit Go.Shelf
set_option maxRecDepth 100000 in
theorem jparts_run (A : Option Addr) (n c : Nat) (i : Nat) (w : World) : Calls Tryz.prog 123 #[.slice A n c, .int .i64 i] w fun e w' => e = .returned (.func (.func 176) #[] #[.pointer (some ⟨w.heap.size + 1, 0, none⟩), .pointer (some ⟨w.heap.size, 0, none⟩)]) ∧
 w' = (w.alloc (.cells #[.slice A n c] 24)).alloc (.cells #[.int .i64 i] 3) := by
 go_enter Tryz.func123, Tryz.ntmps123
 go_wp2_with fail
 go_ret
 exact ⟨rfl, rfl⟩
theorem cells_turn {W W' : World} {row : Option Nat} {k : Nat} {cs : Array Value} {T : TypeId} {f : Nat × Nat} (h : W.heap[k]? = some (.cells cs T f)) (hg : W.grownBy W' row) (hr : ∀ r, row = some r → ∃ o : Obj, W.heap[r]? = some o ∧ o.isCells = false) :
 W'.heap[k]? = some (.cells cs T f) := by
 refine (hg.block k (Array.getElem?_eq_some_iff.1 h).1 ?_).trans h
 intro e
 obtain ⟨o, h1, h2⟩ := hr k e.symm
 rw [h] at h1
 injection h1 with h1
 subst h1
 cases h2
theorem WBs.turn {T : TypeId} {B b : Nat} {l : List UInt8} {W W' : World} {row : Option Nat} (h : WBs T B b l W) (hg : W.grownBy W' row) (hr : ∀ r, row = some r → ∃ o : Obj, W.heap[r]? = some o ∧ o.isCells = false) : WBs T B b l W' := by
 have go : ∀ p, Lib.BuilderAtF T 5 B b p (Lib.byteCells l) W → Lib.BuilderAtF T 5 B b p (Lib.byteCells l) W' := by
  rintro p ⟨hB, v, hb, hown, hne⟩
  refine ⟨hB, v, cells_turn hb hg hr, ⟨hown.1, ?_⟩, hne⟩
  rcases hown.2 with h | ⟨g, cap, cur, fz, hv, hgg, hh, r⟩
  · exact .inl h
  · exact .inr ⟨g, cap, cur, fz, hv, hgg, cells_turn hh hg hr, r⟩
 exact h.imp (go _) (go _)
theorem WKept.turn {B b n : Nat} {w W W' : World} {row : Option Nat} (h : WKept B b w W) (hg : W.grownBy W' row) (hr : ∀ r, row = some r → n ≤ r) (hn : w.heap.size ≤ n) (hB : B ≤ w.heap.size) : WKept B b w W' := by
 refine ⟨Below.grown h.below hg (Nat.le_trans hB h.below.size) (fun k hk => by have := hr k hk; omega), fun k o hk hb ho => ?_⟩
 have hlt := (Array.getElem?_eq_some_iff.1 hk).1
 refine (hg.block k (Nat.lt_of_lt_of_le hlt h.below.size) ?_).trans (h.others k o hk hb ho)
 intro e
 have := hr k e.symm
 omega
def outs (o : Bool) (l : List J) (pre : List (_root_.Fin l.length)) : List UInt8 := (pre.map fun k => partShow o (k.val == 0) l[k]).flatten
theorem outs_snoc (o : Bool) (l : List J) (pre : List (_root_.Fin l.length)) (x : _root_.Fin l.length) : outs o l (pre ++ [x]) = outs o l pre ++ partShow o (x.val == 0) l[x] := by simp [outs]
theorem outs_to (o : Bool) (l : List J) : ∀ k, k ≤ l.length → outs o l ((List.finRange l.length).take k) = J.shows o true (l.take k)
 | 0, _ => by simp [outs, shows_nil]
 | k + 1, hk => by
   rw [List.take_succ_eq_append_getElem (by simp; omega), List.getElem_finRange, outs_snoc, outs_to o l k (by omega), List.take_succ_eq_append_getElem (by omega), shows_snoc]
   congr 2
   cases k with
   | zero => simp
   | succ k =>
     have : (l.take (k + 1)).isEmpty = false := by
      rw [Bool.eq_false_iff]
      intro e
      have := List.isEmpty_iff.1 e
      have := congrArg List.length this
      rw [List.length_take, List.length_nil] at this
      omega
     rw [this]
     simp
theorem outs_all (o : Bool) (l : List J) : outs o l (List.finRange l.length) = J.shows o true l := by
 have h := outs_to o l l.length (Nat.le_refl _)
 rwa [List.take_of_length_le (by simp), List.take_length] at h
theorem outs_len {o : Bool} {l : List J} {R : Nat} (h : ∀ k : _root_.Fin l.length, (partShow o (k.val == 0) l[k]).length ≤ R) : ∀ pre : List (_root_.Fin l.length), (outs o l pre).length ≤ pre.length * R
 | [] => by simp [outs]
 | k :: pre => by
   have e : outs o l (k :: pre) = partShow o (k.val == 0) l[k] ++ outs o l pre := by simp [outs]
   have h1 := h k
   have h2 := outs_len h pre
   rw [e, List.length_append, List.length_cons, Nat.succ_mul]
   omega
theorem ndRoom_le {a b c t : List Nd} (h : t = a ++ b ++ c) : ndRoom b ≤ ndRoom t := by
 rw [h, ndRoom_append, ndRoom_append]
 omega
theorem part_room {t : List Nd} {i : Nat} {h : Hd} {l : List J} {r : List Nd} (hd : t.drop i = (J.mk h l).flat ++ r) (hn : NumsOk t) (o : Bool) (k : _root_.Fin l.length) (f : Bool) : (partShow o f l[k]).length ≤ ndRoom t := by
 have dk := stK_drop hd k.isLt
 have e : t = t.take (stK i l k.val) ++ l[k.val].flat ++ (J.flats (l.drop (k.val + 1)) ++ r) := by rw [List.append_assoc, ← dk, List.take_append_drop]
 have h1 := ndRoom_le e
 have h2 : NumsOk l[k.val].flat := fun x hx => hn x (by rw [e]; simp [hx])
 have h3 := show_room.1 l[k.val] h2
 have h4 := (quoteL_len l[k.val].key).2
 have e2 : l[k] = l[k.val] := rfl
 rw [e2]
 unfold partShow
 simp only [List.length_append]
 split <;> split <;> simp only [List.length_cons, List.length_append, List.length_nil] <;> omega
theorem kid_deep {h : Hd} {l : List J} (k : Nat) (hk : k < l.length) : l[k].deep + 1 ≤ (J.mk h l).deep := by
 simp only [J.deep]
 have : l[k].deep ≤ J.deeps l := by
  have e : l = l.take k ++ l[k] :: l.drop (k + 1) := by rw [← List.drop_eq_getElem_cons hk, List.take_append_drop]
  have e2 : J.deeps l = max (J.deeps (l.take k)) (max l[k].deep (J.deeps (l.drop (k + 1)))) := by
   have := congrArg J.deeps e
   rw [deeps_append] at this
   rw [this]
   simp [J.deeps]
  rw [e2]
  omega
 omega
theorem kid_oks {h : Hd} {l : List J} (hok : J.Ok vU (.mk h l)) (k : Nat) (hk : k < l.length) : J.Ok vU l[k] ∧ (h.kind = 6 ∨ h.kind = 7) ∧ (h.kind = 7 → vU l[k].key = true) := by
 have oks : ∀ {l : List J}, J.Oks vU l → ∀ k, (hk : k < l.length) → J.Ok vU l[k] := by
  intro l
  induction l with
  | nil => intro _ k hk; exact absurd hk (by simp)
  | cons j l ih =>
    intro ho k hk
    simp only [J.Oks] at ho
    cases k with
    | zero => exact ho.1
    | succ k => exact ih ho.2 k (by simpa using hk)
 have keys : ∀ (l : List J) (had : List ByteArray), keysOk vU had (l.map J.key) → ∀ k, (hk : k < l.length) → vU l[k].key = true := by
  intro l
  induction l with
  | nil => intro _ _ k hk; exact absurd hk (by simp)
  | cons j l ih =>
    intro had ho k hk
    simp only [List.map_cons, keysOk] at ho
    cases k with
    | zero => exact ho.1
    | succ k => exact ih _ ho.2.2 k (by simpa using hk)
 simp only [J.Ok] at hok
 rcases hok with ⟨_, hn⟩ | ⟨h6, _, ho, _⟩ | ⟨h7, _, ho, hk7⟩
 · subst hn
   exact absurd hk (by simp)
 · exact ⟨oks ho k hk, .inl h6, fun h7 => by omega⟩
 · exact ⟨oks ho k hk, .inr h7, fun _ => keys _ _ hk7 k hk⟩
attribute [local go_sem] Oper.semAt_some
set_option maxRecDepth 100000 in
set_option maxHeartbeats 1000000 in
theorem all_step (h : Hd) (l : List J) (HP : ∀ j ∈ l, PutC j) : AllC h l := by
 intro t i r v w0 B b acc w f e S hd hok hbd ho hb hBw
 obtain ⟨A, cap, rfl, hcl, hcm, _⟩ := S.nodes.nodes
 have CW := hide (fun w' hb' hBw' => wb_WriteString 93 (.inr rfl) B b acc ⟨#[f]⟩ w' hb' (show acc.length + 1 ≤ 140737488355328 by omega) hBw')
 refine (callsIn_wide (n := 5)).1 ?_
 refine callsIn_of_wp_marks Tryz.func100 rfl trivial ?_ rfl
 simp only [Tryz.ntmps100, List.size_toArray, List.length_cons, List.length_nil, Nat.reduceAdd, Nat.reduceSub, Array.replicate_succ, Array.replicate_zero, List.push_toArray, List.append_toArray, List.nil_append, List.cons_append]
 gi_wp2_with fail
 obtain ⟨X, hX⟩ : ∃ X, Hid (((w.alloc (.cells #[.pointer (some ⟨b, 0, none⟩)] 128)).alloc (.cells #[.slice A t.length cap] 24)).alloc (.cells #[.int .i64 i] 3) = X) := ⟨_, hide rfl⟩
 rw [hX.out]
 have oX : Old w X := by rw [← hX.out]; exact Old.alloc (Old.alloc (Old.alloc (Old.refl w) _) _) _
 have sX : X.heap.size = w.heap.size + 1 + 1 + 1 := by rw [← hX.out]; simp
 have b1 : X.heap[w.heap.size]? = some (.cells #[.pointer (some ⟨b, 0, none⟩)] 128 (0, 0)) := by
  rw [← hX.out]
  exact (Old.alloc (Old.alloc (Old.refl (w.alloc _)) _) _).heap (heap_alloc_new w _)
 have b2 : X.heap[w.heap.size + 1]? = some (.cells #[.slice A t.length cap] 24 (0, 0)) := by
  rw [← hX.out]
  exact (Old.alloc (Old.refl _) _).heap (heap_new _ _ _ (by simp))
 have b3 : X.heap[w.heap.size + 1 + 1]? = some (.cells #[.int .i64 i] 3 (0, 0)) := by
  rw [← hX.out]
  exact heap_new _ _ _ (by simp)
 have hbw : b < w.heap.size := by
  rcases hb with h | h
  · exact h.lt
  · exact h.lt
 refine ⟨trivial, (callsIn_wide.2 (CW.out X (WBs.old hb oX) (by omega))).mono ?_⟩
 rintro e1 w1 ⟨rfl, h1, k1⟩
 have H1 := hide h1
 have K1 := hide k1
 have d1 : w1.heap[w.heap.size]? = some (.cells #[.pointer (some ⟨b, 0, none⟩)] 128 (0, 0)) := k1.others _ _ b1 (by simp; omega) (by simp)
 have d2 : w1.heap[w.heap.size + 1]? = some (.cells #[.slice A t.length cap] 24 (0, 0)) := k1.others _ _ b2 (by simp; omega) (by simp)
 have d3 : w1.heap[w.heap.size + 1 + 1]? = some (.cells #[.int .i64 i] 3 (0, 0)) := k1.others _ _ b3 (by simp; omega) (by simp)
 have c1 : w1.cell? ⟨w.heap.size, 0, none⟩ = some (.pointer (some ⟨b, 0, none⟩)) := by rw [cell_of_heap d1]; rfl
 have c2 : w1.cell? ⟨w.heap.size + 1, 0, none⟩ = some (.slice A t.length cap) := by rw [cell_of_heap d2]; rfl
 have c3 : w1.cell? ⟨w.heap.size + 1 + 1, 0, none⟩ = some (.int .i64 i) := by rw [cell_of_heap d3]; rfl
 clear h1 k1 CW b1 b2 b3
 gi_wp2_with fail
 refine ⟨trivial, (callsIn_wide.2 (jparts_run A t.length cap i w1)).mono ?_⟩
 rintro e2 w2 ⟨rfl, rfl⟩
 gi_wp2_with fail
 have hroot : t[i]? = some ⟨h.kind, h.key, h.n, h.s, ((J.flats l).length : Int) + 1⟩ := by
  have e := congrArg List.head? hd
  rw [List.head?_drop, flat_mk] at e
  simpa using e
 obtain ⟨g, off, rfl, z0, _, _, _, _⟩ := nodes_cells S.nodes hroot
 obtain ⟨w3, hw3⟩ : ∃ w3, Hid ((w1.alloc (.cells #[.slice (some ⟨g, off, none⟩) t.length cap] 24)).alloc (.cells #[.int .i64 i] 3) = w3) := ⟨_, hide rfl⟩
 rw [hw3.out]
 have o3 : Old w1 w3 := by rw [← hw3.out]; exact Old.alloc (Old.alloc (Old.refl w1) _) _
 have s3 : w3.heap.size = w1.heap.size + 1 + 1 := by rw [← hw3.out]; simp
 have a1 : w3.heap[w1.heap.size + 1]? = some (.cells #[.int .i64 i] 3 (0, 0)) := by
  rw [← hw3.out]
  exact heap_new _ _ _ (by simp)
 have a2 : w3.heap[w1.heap.size]? = some (.cells #[.slice (some ⟨g, off, none⟩) t.length cap] 24 (0, 0)) := by
  rw [← hw3.out]
  exact (Old.alloc (Old.refl _) _).heap (heap_alloc_new w1 _)
 have hB1 : B ≤ w1.heap.size := Nat.le_trans (by omega) K1.out.below.size
 have ow1 : Old w0 w1 := Below.trans (Old.trans ho oX) (K1.out.below.mono S.size)
 have hbw1 : b < w1.heap.size := Nat.lt_of_lt_of_le (Nat.lt_of_lt_of_le hbw oX.size) K1.out.below.size
 have F5 := hide (fun W (k : WKept B b w1 W) => show W.cell? ⟨w.heap.size, 0, none⟩ = some (.pointer (some ⟨b, 0, none⟩)) by rw [cell_of_heap (k.others _ _ d1 (by simp; omega) (by simp))]; rfl)
 have F6 := hide (fun W (k : WKept B b w1 W) => show W.cell? ⟨w.heap.size + 1, 0, none⟩ = some (.slice (some ⟨g, off, none⟩) t.length cap) by rw [cell_of_heap (k.others _ _ d2 (by simp; omega) (by simp))]; rfl)
 have F7 := hide (fun W (k : WKept B b w1 W) => show W.cell? ⟨w.heap.size + 1 + 1, 0, none⟩ = some (.int .i64 i) by rw [cell_of_heap (k.others _ _ d3 (by simp; omega) (by simp))]; rfl)
 have FO := hide (fun W (k : WKept B b w1 W) => show Old w0 W from Below.trans ow1 (k.below.mono S.size))
 have FK := hide (fun W (k : WKept B b w1 W) => (FO.out W k).cell z0)
 have S' := hide S
 have HD := hide hd
 have HOK := hide hok
 have HP' := hide HP
 have HBD := hide hbd
 have LT := hide (fun k => stK_lt hd k)
 have HR := hide (show ∀ pre : List (_root_.Fin l.length), pre.length ≤ l.length → (outs (h.kind == 7) l pre).length + 2 ≤ 1099511627776 from fun pre hpl => by
  have h1 := outs_len (o := (h.kind == 7)) (l := l) (R := ndRoom t) (fun k => part_room hd S.nums _ k _) pre
  have h2 := (stK_lt hd 0).1
  have h3 := len_flats l
  have h4 : pre.length * ndRoom t ≤ t.length * ndRoom t := Nat.mul_le_mul_right _ (by omega)
  have h5 := S.room
  omega)
 clear c1 c2 c3 z0 hroot d1 d2 d3
 refine wpIn_rangeFunc_ownG rfl (by omega) (gf := 176) (lb := #[.pointer (some ⟨w1.heap.size + 1, 0, none⟩), .pointer (some ⟨w1.heap.size, 0, none⟩)]) rfl trivial (enters_of Tryz.func176 (by kernel_rfl) rfl)
  (parts_it 4 B b (by omega) w0 _ t i h l r S.nodes S.len S.size hd (w1.heap.size + 1) w1.heap.size w3 (Old.trans ow1 o3) a1 a2 (by omega) (by omega))
  (fun h k => h.trans k) (fun W l o o' hl ho' hc _ => IKept.putObj (by omega) ho' hc) (Below.refl _ _) (fun _ => rfl)
  (fun pre W => ∃ bs, WBs 93 B b bs W ∧ Puts acc (f :: outs (h.kind == 7) l pre) bs ∧ WKept B b w1 W)
  (fun _ _ _ => False)
  (fun s A C row hs hg hr => by
    obtain ⟨bs, h1, h2, h3⟩ := hs
    exact ⟨bs, h1.turn hg (fun r hr' => (hr r hr').2), h2, h3.turn hg (n := w3.heap.size) (fun r hr' => (hr r hr').1) o3.size hB1⟩)
  (fun _ _ _ _ _ hs _ _ => hs)
  ⟨acc ++ [f], by simpa using WBs.old H1.out o3, by simpa [outs] using Puts.all acc [f], WKept.of_old o3 hB1⟩
  (fun x => { tmps := #[.pointer (some ⟨b, 0, none⟩), .slice (some ⟨g, off, none⟩) t.length cap, .int .i64 i, .string ⟨#[f]⟩, .string ⟨#[e]⟩, .pointer (some ⟨w.heap.size, 0, none⟩), .pointer (some ⟨w.heap.size + 1, 0, none⟩), .pointer (some ⟨w.heap.size + 1 + 1, 0, none⟩), undef, undef, .int .i64 (stK i l x.val : Nat), .pointer (some ⟨b, 0, none⟩), .pointer (some ⟨b, 0, none⟩), .pointer (some ⟨b, 0, none⟩), .string ⟨#[f]⟩, .tuple #[.int .i64 1, .nilIface], .slice (some ⟨g, off, none⟩) t.length cap, .int .i64 i, .func (.func 176) #[] #[.pointer (some ⟨w1.heap.size + 1, 0, none⟩), .pointer (some ⟨w1.heap.size, 0, none⟩)], .int .i64 (stK i l x.val : Nat), undef, undef, undef, undef, undef, undef, undef, undef, undef, undef, undef, undef, undef, undef, undef, undef, undef, undef, undef, undef, undef, undef, undef, undef, undef, undef, undef, undef, undef, undef, undef, undef, undef, undef], defers := [] }) ?assign ?body ?done ?stop
 case assign =>
  intro lp x W K hK
  gi_wp2
  exact hK
 case body =>
  rintro lp pre x W ⟨bs, hbs, hp, hk⟩ hlen
  obtain ⟨st, hst⟩ : ∃ st, Hid (stK i l x.val = st) := ⟨_, hide rfl⟩
  rw [hst.out]
  have hstl := LT.out x.val
  rw [hst.out] at hstl
  have dk := stK_drop HD.out x.isLt
  rw [hst.out] at dk
  obtain ⟨hsl, hnode⟩ := head_flat dk
  obtain ⟨g', off', he, _, y1, _, _, _⟩ := nodes_cells S'.out.nodes (List.getElem?_eq_getElem hsl)
  injection he with he
  injection he with e1 e2 e3
  subst e1 e2
  rw [hnode] at y1
  have FY := hide (fun W (k : WKept B b w1 W) => (FO.out W k).cell y1)
  obtain ⟨kok, hk67, hkey⟩ := kid_oks HOK.out x.val x.isLt
  have kdeep := kid_deep (h := h) x.val x.isLt
  have hkm : l[x.val] ∈ l := List.getElem_mem x.isLt
  have hmem : (t[st]'hsl).key.size ≤ 2097152 := (S'.out.small _ (List.getElem_mem hsl)).1
  rw [hnode] at hmem
  have hmem' : l[x.val].key.size ≤ 2097152 := hmem
  have hol := HR.out pre (Nat.le_of_lt hlen)
  have hol2 := HR.out (pre ++ [x]) (by simp; omega)
  rw [outs_snoc, List.length_append] at hol2
  have hbl := hp.most
  simp only [List.length_cons] at hbl
  have PC := hide (fun (bs' : List UInt8) W' (hl : bs'.length + l[x.val].deep * 1099511627776 ≤ 70368744177664) (k : WKept B b w1 W') (hw : WBs 93 B b bs' W') =>
   HP'.out _ hkm t st _ _ w0 B b bs' W' S'.out dk kok hl (FO.out W' k) hw (Nat.le_trans hB1 k.below.size))
  have hbd3 : acc.length + 1099511627776 + l[x.val].deep * 1099511627776 ≤ 70368744177664 := by
   have h1 := HBD.out
   have h2 : (l[x.val].deep + 1) * 1099511627776 ≤ (J.mk h l).deep * 1099511627776 := Nat.mul_le_mul_right _ kdeep
   rw [Nat.succ_mul] at h2
   omega
  have hwi : IntKind.i64.wrap ((i : Int) + 1) = (i : Int) + 1 := IntWalk.i64_in _ (by have := S'.out.len; omega)
  have NB := hide (fun W' (k : WKept B b W W') => show KeepsFrom w3.heap.size W W' from ⟨k.below.size, fun q o _ hq ho => k.others q o hq (by
   intro e
   injection e with e
   subst e
   rcases hbs with h | h
   · obtain ⟨_, v, hb', _⟩ := h
     rw [hb'] at hq
     injection hq with hq
     subst hq
     cases ho
   · obtain ⟨_, v, hb', _⟩ := h
     rw [hb'] at hq
     injection hq with hq
     subst hq
     cases ho) (by intro c fz e; subst e; cases ho)⟩)
  have hBW : B ≤ W.heap.size := Nat.le_trans hB1 hk.below.size
  obtain ⟨tl, htl⟩ : ∃ tl, Hid (t.length = tl) := ⟨_, hide rfl⟩
  have htl4 : tl ≤ 4000 := by rw [← htl.out]; exact S'.out.len
  have hsl2 : st < tl := by rw [← htl.out]; exact hsl
  have hil : i < tl := by rw [← htl.out]; omega
  rw [htl.out] at F6 hcl PC ⊢
  have TB := hide (fun W' (k : WKept B b w1 W') => S'.out.tabs W' (FO.out W' k))
  unfold maxLen at hcm
  obtain ⟨kj, hkj⟩ : ∃ kj, Hid (l[x.val] = kj) := ⟨_, hide rfl⟩
  have e2 : l[x] = l[x.val] := rfl
  rw [e2] at hol2
  rw [hkj.out] at PC FY hkey hmem' hbd3 hol2
  have hprel := hide hp
  have HBS := hide hbs
  have HK0 := hide hk
  have c5 := F5.out W hk
  have c6 := F6.out W hk
  have c7 := F7.out W hk
  have c8 := FK.out W hk
  have SN := hide (outs_snoc (h.kind == 7) l pre x)
  rw [e2, hkj.out] at SN
  obtain ⟨kd, hkd⟩ : ∃ kd, Hid (kj.deep = kd) := ⟨_, hide rfl⟩
  rw [hkd.out] at PC hbd3
  clear dk hnode y1 kok kdeep hkm hmem hp hbs hlen
  by_cases hx : x.val = 0
  · have hx0 : (x.val == 0) = true := by simp [hx]
    have hst1 : st ≤ i + 1 := by rw [← hst.out, hx]; simp [stK, J.flats]
    have hgt : ¬ (st : Int) > (i : Int) + 1 := by omega
    rcases hk67 with h6 | h7
    · have h7b : (h.kind == 7) = false := by rw [h6]; rfl
      rw [h6] at c8
      gi_wp2_with fail
      have hpl : bs.length + kd * 1099511627776 ≤ 70368744177664 := by omega
      refine ⟨trivial, (CallsIn.inRound lp (callsIn_wide.2 (PC.out bs W hpl HK0.out HBS.out))).mono ?_⟩
      rintro e6 w6 ⟨rfl, bs6, h6, p6, k6⟩
      have HB6 := hide h6
      have K6 := hide (show WKept B b W w6 from k6)
      have P6 := hide (show Puts acc (f :: outs (h.kind == 7) l (pre ++ [x])) bs6 by
       rw [SN.out]
       have hq := Puts.trans hprel.out p6
       have ep : partShow (h.kind == 7) (x.val == 0) kj = kj.show := by
        unfold partShow
        simp [hx0, h7b]
       rw [ep]
       simpa using hq)
      clear h6 p6 k6
      gi_wp2_with fail
      exact ⟨NB.out _ K6.out, K6.out.ik, bs6, HB6.out, P6.out, HK0.out.trans K6.out⟩
    · have h7b : (h.kind == 7) = true := by rw [h7]; rfl
      rw [h7] at c8
      have c9 := FY.out W HK0.out
      gi_wp2_with fail
      have hps : (partShow (h.kind == 7) (x.val == 0) kj).length = 0 + (quoteL kj.key).length + 1 + kj.show.length := by
       unfold partShow
       simp [hx0, h7b]
       omega
      have CQ := hide (wquote_run kj.key B b bs W.drew (by omega) (hkey h7) (TB.out W.drew (HK0.out.trans ⟨Below.drew (Below.refl _ _), (Lib.OthersKept.refl _ _ _).drew⟩)) (show WBs 93 B b bs W.drew from HBS.out) (by omega) hBW)
      gi_region_with (refine ⟨trivial, (CallsIn.inRound lp (callsIn_wide.2 CQ.out)).mono ?_⟩; rintro e5 w5 ⟨rfl, h5, k5⟩)
      all_goals
       have H5 := hide (show WBs 93 B b (bs ++ quoteL kj.key) w5 from h5)
       have K5 := hide (show WKept B b W w5 from WKept.trans ⟨Below.drew (Below.refl _ _), (Lib.OthersKept.refl _ _ _).drew⟩ k5)
       have KW5 := hide (HK0.out.trans K5.out)
       clear h5 k5 c5 c6 c7 c8 c9
       have c5 := F5.out w5 KW5.out
       have hB5 : B ≤ w5.heap.size := Nat.le_trans hB1 KW5.out.below.size
       gi_wp2_with fail
       refine ⟨trivial, (CallsIn.inRound lp (callsIn_wide.2 (wb_WriteString 93 (.inr rfl) B b (bs ++ quoteL kj.key) ⟨#[58]⟩ _ H5.out (show (bs ++ quoteL kj.key).length + 1 ≤ 140737488355328 by simp only [List.length_append]; omega) hB5))).mono ?_⟩
       rintro e6 w6 ⟨rfl, h6, k6⟩
       have H6 := hide (show WBs 93 B b (bs ++ quoteL kj.key ++ [58]) w6 from h6)
       have K6 := hide (K5.out.trans k6)
       have KW6 := hide (HK0.out.trans K6.out)
       clear h6 k6 c5
       have c5 := F5.out w6 KW6.out
       have c6 := F6.out w6 KW6.out
       have hpl : (bs ++ quoteL kj.key ++ [58]).length + kd * 1099511627776 ≤ 70368744177664 := by simp only [List.length_append, List.length_cons, List.length_nil]; omega
       gi_wp2_with fail
       refine ⟨trivial, (CallsIn.inRound lp (callsIn_wide.2 (PC.out (bs ++ quoteL kj.key ++ [58]) w6 hpl KW6.out H6.out))).mono ?_⟩
       rintro e7 w7 ⟨rfl, bs7, h7', p7, k7⟩
       have HB7 := hide h7'
       have K7 := hide (show WKept B b W w7 from K6.out.trans k7)
       have P7 := hide (show Puts acc (f :: outs (h.kind == 7) l (pre ++ [x])) bs7 by
        rw [SN.out]
        have hq := Puts.trans hprel.out (Puts.trans (Puts.all bs []) (Puts.trans (Puts.all _ (quoteL kj.key)) (Puts.trans (Puts.all _ [58]) (show Puts ((bs ++ []) ++ quoteL kj.key ++ [58]) kj.show bs7 by simpa using p7))))
        have ep : partShow (h.kind == 7) (x.val == 0) kj = [] ++ (quoteL kj.key ++ ([58] ++ kj.show)) := by
         unfold partShow
         simp [hx0, h7b]
        rw [ep]
        simpa using hq)
       clear h7' p7 k7
       gi_wp2_with fail
       exact ⟨NB.out _ K7.out, K7.out.ik, bs7, HB7.out, P7.out, HK0.out.trans K7.out⟩
  · have hx0 : (x.val == 0) = false := beq_eq_false_iff_ne.2 hx
    have hst1 : i + 1 < st := by
     rw [← hst.out]
     unfold stK
     have := len_flats (l.take x.val)
     rw [List.length_take] at this
     have := x.isLt
     omega
    have hgt : (st : Int) > (i : Int) + 1 := by omega
    rcases hk67 with h6 | h7
    · have h7b : (h.kind == 7) = false := by rw [h6]; rfl
      rw [h6] at FK
      clear c8
      have c8 := FK.out W HK0.out
      gi_wp2_with fail
      refine ⟨trivial, (CallsIn.inRound lp (callsIn_wide.2 (wb_WriteString 93 (.inr rfl) B b bs ⟨#[44]⟩ _ HBS.out (show bs.length + 1 ≤ 140737488355328 by omega) hBW))).mono ?_⟩
      rintro e4 w4 ⟨rfl, h4, k4⟩
      have H4 := hide (show WBs 93 B b (bs ++ [44]) w4 from h4)
      have K4 := hide k4
      have KW4 := hide (HK0.out.trans k4)
      clear h4 k4 c5 c6 c7 c8
      have c5 := F5.out w4 KW4.out
      have c6 := F6.out w4 KW4.out
      have c7 := F7.out w4 KW4.out
      have c8 := FK.out w4 KW4.out
      have hB4 : B ≤ w4.heap.size := Nat.le_trans hBW K4.out.below.size
      gi_wp2_with fail
      have hpl : (bs ++ [44]).length + kd * 1099511627776 ≤ 70368744177664 := by simp only [List.length_append, List.length_cons, List.length_nil]; omega
      refine ⟨trivial, (CallsIn.inRound lp (callsIn_wide.2 (PC.out (bs ++ [44]) w4 hpl KW4.out H4.out))).mono ?_⟩
      rintro e6 w6 ⟨rfl, bs6, h6, p6, k6⟩
      have HB6 := hide h6
      have K6 := hide (show WKept B b W w6 from K4.out.trans k6)
      have P6 := hide (show Puts acc (f :: outs (h.kind == 7) l (pre ++ [x])) bs6 by
       rw [SN.out]
       have hq := Puts.trans hprel.out (Puts.trans (Puts.all bs [44]) p6)
       have ep : partShow (h.kind == 7) (x.val == 0) kj = 44 :: kj.show := by
        unfold partShow
        simp [hx0, h7b]
       rw [ep]
       simpa using hq)
      clear h6 p6 k6
      gi_wp2_with fail
      exact ⟨NB.out _ K6.out, K6.out.ik, bs6, HB6.out, P6.out, HK0.out.trans K6.out⟩
    · have h7b : (h.kind == 7) = true := by rw [h7]; rfl
      rw [h7] at FK
      clear c8
      have c8 := FK.out W HK0.out
      gi_wp2_with fail
      refine ⟨trivial, (CallsIn.inRound lp (callsIn_wide.2 (wb_WriteString 93 (.inr rfl) B b bs ⟨#[44]⟩ _ HBS.out (show bs.length + 1 ≤ 140737488355328 by omega) hBW))).mono ?_⟩
      rintro e4 w4 ⟨rfl, h4, k4⟩
      have H4 := hide (show WBs 93 B b (bs ++ [44]) w4 from h4)
      have K4 := hide k4
      have KW4 := hide (HK0.out.trans k4)
      clear h4 k4 c5 c6 c7 c8
      have c5 := F5.out w4 KW4.out
      have c6 := F6.out w4 KW4.out
      have c7 := F7.out w4 KW4.out
      have c8 := FK.out w4 KW4.out
      have c9 := FY.out w4 KW4.out
      have hB4 : B ≤ w4.heap.size := Nat.le_trans hBW K4.out.below.size
      gi_wp2_with fail
      have hps : (partShow (h.kind == 7) (x.val == 0) kj).length = 1 + (quoteL kj.key).length + 1 + kj.show.length := by
       unfold partShow
       simp [hx0, h7b]
       omega
      have CQ := hide (wquote_run kj.key B b (bs ++ [44]) w4.drew (by omega) (hkey h7) (TB.out w4.drew (KW4.out.trans ⟨Below.drew (Below.refl _ _), (Lib.OthersKept.refl _ _ _).drew⟩)) (show WBs 93 B b (bs ++ [44]) w4.drew from H4.out) (by simp only [List.length_append, List.length_cons, List.length_nil]; omega) hB4)
      gi_region_with (refine ⟨trivial, (CallsIn.inRound lp (callsIn_wide.2 CQ.out)).mono ?_⟩; rintro e5 w5 ⟨rfl, h5, k5⟩)
      all_goals
       have H5 := hide (show WBs 93 B b ((bs ++ [44]) ++ quoteL kj.key) w5 from h5)
       have K5 := hide (show WKept B b w4 w5 from WKept.trans ⟨Below.drew (Below.refl _ _), (Lib.OthersKept.refl _ _ _).drew⟩ k5)
       have KW5 := hide (KW4.out.trans K5.out)
       clear h5 k5 c5 c6 c7 c8 c9
       have c5 := F5.out w5 KW5.out
       have hB5 : B ≤ w5.heap.size := Nat.le_trans hB1 KW5.out.below.size
       gi_wp2_with fail
       refine ⟨trivial, (CallsIn.inRound lp (callsIn_wide.2 (wb_WriteString 93 (.inr rfl) B b ((bs ++ [44]) ++ quoteL kj.key) ⟨#[58]⟩ _ H5.out (show ((bs ++ [44]) ++ quoteL kj.key).length + 1 ≤ 140737488355328 by simp only [List.length_append, List.length_cons, List.length_nil]; omega) hB5))).mono ?_⟩
       rintro e6 w6 ⟨rfl, h6, k6⟩
       have H6 := hide (show WBs 93 B b ((bs ++ [44]) ++ quoteL kj.key ++ [58]) w6 from h6)
       have K6 := hide (K5.out.trans k6)
       have KW6 := hide (KW4.out.trans K6.out)
       clear h6 k6 c5
       have c5 := F5.out w6 KW6.out
       have c6 := F6.out w6 KW6.out
       have hpl : ((bs ++ [44]) ++ quoteL kj.key ++ [58]).length + kd * 1099511627776 ≤ 70368744177664 := by simp only [List.length_append, List.length_cons, List.length_nil]; omega
       gi_wp2_with fail
       refine ⟨trivial, (CallsIn.inRound lp (callsIn_wide.2 (PC.out ((bs ++ [44]) ++ quoteL kj.key ++ [58]) w6 hpl KW6.out H6.out))).mono ?_⟩
       rintro e7 w7 ⟨rfl, bs7, h7', p7, k7⟩
       have HB7 := hide h7'
       have K7 := hide (show WKept B b W w7 from K4.out.trans (K6.out.trans k7))
       have P7 := hide (show Puts acc (f :: outs (h.kind == 7) l (pre ++ [x])) bs7 by
        rw [SN.out]
        have hq := Puts.trans hprel.out (Puts.trans (Puts.all bs [44]) (Puts.trans (Puts.all _ (quoteL kj.key)) (Puts.trans (Puts.all _ [58]) (show Puts ((bs ++ [44]) ++ quoteL kj.key ++ [58]) kj.show bs7 by simpa using p7))))
        have ep : partShow (h.kind == 7) (x.val == 0) kj = [44] ++ (quoteL kj.key ++ ([58] ++ kj.show)) := by
         unfold partShow
         simp [hx0, h7b]
        rw [ep]
        simpa using hq)
       clear h7' p7 k7
       gi_wp2_with fail
       exact ⟨NB.out _ K7.out, K7.out.ik, bs7, HB7.out, P7.out, HK0.out.trans K7.out⟩
 case done =>
  rintro D xs W hD rfl ⟨bs, hbs, hp, hk⟩ hK
  have hol := HR.out (List.finRange l.length) (by simp)
  have hbl := hp.most
  simp only [List.length_cons] at hbl
  have hbd' : acc.length + 1099511627776 ≤ 70368744177664 := by
   have h1 := HBD.out
   have h2 := Nat.mul_le_mul_right 1099511627776 (show 1 ≤ (J.mk h l).deep from deep_pos _)
   omega
  have c5 := F5.out W hk
  rw [outs_all] at hp
  have hBW : B ≤ W.heap.size := Nat.le_trans hB1 hk.below.size
  gi_wp2_with fail
  refine ⟨trivial, (callsIn_wide.2 (wb_WriteString 93 (.inr rfl) B b bs ⟨#[e]⟩ _ hbs (show bs.length + 1 ≤ 140737488355328 by omega) hBW)).mono ?_⟩
  rintro e9 w9 ⟨rfl, h9, k9⟩
  have hK9 : w9.heap[D]? = some (.deferred (some [])) := k9.others _ _ hK (by simp; omega) (by simp)
  gi_wp2_with fail
  refine ⟨by simp, .inl ⟨_, _, rfl, run_takeDeferred hK9, ?_⟩⟩
  have hg : w9.grownBy (w9.putObj D (.deferred none)) (some D) := grownBy_putObj' w9 D _
  have hrow : ∀ r, some D = some r → ∃ o : Obj, w9.heap[r]? = some o ∧ o.isCells = false := fun r hr => by
   injection hr with hr
   subst hr
   exact ⟨_, hK9, rfl⟩
  have kk : WKept B b w w9 := ((WKept.of_old oX hBw).trans K1.out).trans (hk.trans k9)
  refine ⟨_, results_none rfl _ _ _, rfl, bs ++ [e], WBs.turn (show WBs 93 B b (bs ++ [e]) w9 from h9) hg hrow, ?_, kk.turn hg (n := w3.heap.size) (fun r hr => by injection hr with hr; subst hr; exact hD) (Nat.le_trans (Nat.le_trans oX.size K1.out.below.size) o3.size) hBw⟩
  have hq := Puts.trans hp (Puts.all bs [e])
  simpa using hq
 case stop =>
  rintro D c pre W _ _ hf _
  exact hf.elim
theorem wput_run : ∀ j : J, PutC j :=
 (J.both (P := PutC) (Q := fun l => ∀ j ∈ l, PutC j) (fun h l hl => put_step h l (all_step h l hl)) (fun j hj => by cases hj) (fun j l hj hl x hx => by
   rcases List.mem_cons.1 hx with rfl | hx
   · exact hj
   · exact hl x hx)).1
end Go.Proofs.YthlfljmfggmfdaaGreatDoor

/-! ###  -/
namespace Go.Proofs.YthlfljmfggmfdaaGreatDoor
open Go.RowKit
theorem PowTab.old {w w' : World} (h : PowTab w) (o : Old w w') : PowTab w' := Go.Joins.tab_stays (g := 2) (by kernel_rfl) h o (Nat.le_refl _)
def Every (Q : ByteArray → Int → ByteArray → Prop) (l : List Nd) : Prop := ∀ x ∈ l, Q x.key x.n x.s
structure Fine (C : Nat) (t : List Nd) : Prop where
 every : Every (fun k n s => k.size ≤ C ∧ s.size ≤ C ∧ -9223372036854775808 ≤ n ∧ n ≤ 9223372036854775807) t
 small : C ≤ 2097152
 room : t.length * (t.length * (12 * C + 32)) + 2 ≤ 1099511627776
theorem Fine.nums {C : Nat} {t : List Nd} (h : Fine C t) : NumsOk t := fun x hx => (h.every x hx).2.2
theorem Fine.texts {C : Nat} {t : List Nd} (h : Fine C t) : TextsOk t := fun x hx => by
 have := h.every x hx
 have := h.small
 unfold maxLen
 omega
theorem room_le {C : Nat} : ∀ {t : List Nd}, (∀ x ∈ t, x.key.size ≤ C ∧ x.s.size ≤ C) → ndRoom t ≤ t.length * (12 * C + 32)
 | [], _ => by simp [ndRoom]
 | x :: t, h => by
   have h1a : x.key.size ≤ C := (h x (by simp)).1
   have h1b : x.s.size ≤ C := (h x (by simp)).2
   have h2 := room_le (t := t) fun y hy => h y (by simp [hy])
   rw [ndRoom_cons, List.length_cons, Nat.add_mul, Nat.one_mul]
   omega
theorem Fine.site {C B : Nat} {t : List Nd} {v : Value} {w : World} (h : Fine C t) (hn : NodesIs w v t) (hB : w.heap.size ≤ B) (hl : t.length ≤ 4000) (hT : Tabs w) (hP : PowTab w) : Site B t v w where
 nodes := hn
 size := hB
 len := hl
 tabs := fun _ o => hT.old o
 pow := fun _ o => PowTab.old hP o
 nums := h.nums
 small := fun x hx => by have := h.every x hx; have := h.small; omega
 room := by
  have h1 := room_le (C := C) (t := t) fun x hx => ⟨(h.every x hx).1, (h.every x hx).2.1⟩
  have h2 := Nat.mul_le_mul_left t.length h1
  have := h.room
  omega
def ShowT (t : List Nd) (out : List UInt8) (e : Int) : Prop := (chkT t ≠ 0 ∧ e = chkT t ∧ out = []) ∨ ∃ j, May t j ∧ ((j.show.length ≤ maxText ∧ out = j.show ∧ e = 0) ∨ (maxText < j.show.length ∧ out = [] ∧ e = 5))
def strE (out : List UInt8) (e : Int) : Value := .tuple #[.string ⟨out.toArray⟩, .int .i64 e]
theorem show_ne (j : J) : j.show ≠ [] := by
 cases j with
 | mk h l =>
   simp only [J.show]
   split
   · simp
   split
   · simp
   split
   · simp
   split
   · unfold Lib.itoa
     split
     · simp
     · intro e
       have h1 := congrArg List.length e
       rw [Lib.decDigits_length] at h1
       have h2 := Lib.nDigits_pos h.n.toNat
       simp only [List.length_nil] at h1
       omega
   split
   · simp [quoteL]
   split
   · simp
   · simp
set_option maxRecDepth 100000 in
set_option maxHeartbeats 1000000 in
theorem show_run (C : Nat) (v : Value) (t : List Nd) (out : List UInt8) (er : Int) (w : World) (hn : NodesIs w v t) (G : Fine C t) (hT : Tabs w) (hP : PowTab w) (hs : ShowT t out er) :
 Calls Tryz.prog 25 #[v] w fun e w' => e = .returned (strE out er) ∧ Old w w' := by
 unfold strE
 have CC := check_run v t w hn G.texts hT
 rcases hs with ⟨h0, rfl, rfl⟩ | ⟨j, hj, hs⟩
 · obtain ⟨c, hc⟩ : ∃ c, Hid (chkT t = c) := ⟨_, hide rfl⟩
   rw [hc.out] at CC h0 ⊢
   have hc0 : (c == 0) = false := beq_eq_false_iff_ne.2 h0
   clear hn G hT hP
   go_enter Tryz.func25, Tryz.ntmps25
   go_wp2_with fail
   refine CC.mono ?_
   rintro e w1 ⟨rfl, o1⟩
   have O1 := hide o1
   clear o1 CC
   go_wp2_with fail
   go_ret2
   exact ⟨rfl, O1.out⟩
 · rw [chkT_may hj] at CC
   have CP := hide (fun w1 (o1 : Old w w1) (X : World) (o2 : Old w1 X) (hX : w1.heap.size ≤ X.heap.size) (hb : WBs 93 w1.heap.size w1.heap.size [] X) =>
    wput_run j t 0 [] v w w1.heap.size w1.heap.size [] X (G.site hn o1.size hj.2.1 hT hP) (by rw [List.drop_zero, List.append_nil]; exact hj.1.2.2) hj.1.1 (by have := hj.2.2; simp; omega) (Old.trans o1 o2) hb hX)
   have HS := hide hs
   have hne := hide (show_ne j)
   obtain ⟨sh, hsh⟩ : ∃ sh, Hid (j.show = sh) := ⟨_, hide rfl⟩
   rw [hsh.out] at CP HS hne
   obtain ⟨A, n, cap, rfl⟩ : ∃ A n cap, v = .slice A n cap := by obtain ⟨A, cap, h, _⟩ := hn.nodes; exact ⟨A, _, cap, h⟩
   clear hn G hT hP hs hj
   go_enter Tryz.func25, Tryz.ntmps25
   go_wp2_with fail
   refine CC.mono ?_
   rintro e w1 ⟨rfl, o1⟩
   have O1 := hide o1
   clear CC
   go_wp2_with fail
   refine (CP.out w1 o1 _ (Old.alloc (Old.refl _) _) (by simp) (Lib.IsBuilderF.of (Lib.fresh_isBuilder _ _ w1))).mono ?_
   rintro e w2 ⟨rfl, bs, h2, p2, k2⟩
   have O2 := hide (show Old w w2 from Old.trans o1 (Below.trans (Old.alloc (Old.refl w1) _) k2.below))
   have H2 := hide h2
   have P2 := hide p2
   obtain ⟨n2, hn2⟩ : ∃ n2, Hid (bs.length = n2) := ⟨_, hide rfl⟩
   have CL := hide (wb_Len 93 _ _ bs w2 h2)
   rw [hn2.out] at CL
   have hB12 : w1.heap.size ≤ w2.heap.size := Nat.le_trans (by simp) k2.below.size
   have hB01 : w.heap.size ≤ w1.heap.size := o1.size
   clear h2 p2 k2 o1 CP
   go_wp2_with fail
   refine CL.out.mono ?_
   rintro e w3 ⟨rfl, rfl⟩
   clear CL
   by_cases hov : n2 > 1048576
   · have hov' : (n2 : Int) > 1048576 := by omega
     have HE := hide (show out = [] ∧ er = 5 by
      rcases HS.out with ⟨h1, _⟩ | ⟨_, h⟩
      · exfalso
        have := P2.out.most
        simp only [List.length_nil, Nat.zero_add, hn2.out] at this
        unfold maxText at h1
        omega
      · exact h)
     go_wp2_with fail
     go_ret2
     exact ⟨by rw [HE.out.1, HE.out.2]; rfl, O2.out⟩
   · have hov' : ¬ (n2 : Int) > 1048576 := by omega
     have HE := hide (show out = sh ∧ er = 0 ∧ bs = sh by
      rcases HS.out with ⟨h1, h2, h3⟩ | ⟨h1, _⟩
      · exact ⟨h2, h3, by simpa using P2.out.fits (by simpa using h1)⟩
      · exfalso
        have := P2.out.over (by simpa using h1)
        rw [hn2.out] at this
        unfold maxText at this
        omega)
     have CS := hide (wb_String 93 _ _ bs _ H2.out (by rw [HE.out.2.2]; exact hne.out))
     go_wp2_with fail
     refine CS.out.mono ?_
     rintro e w4 ⟨rfl, _, k4⟩
     have O4 := hide (show Old w w4 from Below.trans O2.out (k4.below.mono hB01))
     clear k4 CS
     go_wp2_with fail
     go_ret2
     exact ⟨by rw [HE.out.1, HE.out.2.1, HE.out.2.2]; rfl, O4.out⟩
end Go.Proofs.YthlfljmfggmfdaaGreatDoor
