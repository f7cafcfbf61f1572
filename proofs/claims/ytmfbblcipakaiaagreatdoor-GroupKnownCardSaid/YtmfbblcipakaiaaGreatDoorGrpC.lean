/- The walks of the program's groups that tell which entries may be. -/
import Derived.Test.YtmfbblcipakaiaaGreatDoorGrpD
import Derived.Test.YtmfbblcipakaiaaGreatDoorCopy
import Derived.Test.YtmfbblcipakaiaaGreatDoorOrder
import Derived.Test.YtmfbblcipakaiaaGreatDoorGrpG
import Derived.Deep.RegionHeld3
/-! ### The walks of the program's groups that tell which entries may be. -/
namespace Go.Proofs.YtmfbblcipakaiaaGreatDoor
open Go.RowKit

set_option maxRecDepth 100000 in
theorem odd_run (c : Cell) (w : World) : Calls Tryz.prog 62 #[c.val] w fun e w' => e = .returned (.bool (!valB c)) ∧ Old w w' := by
  obtain ⟨nl, n, s⟩ := c
  have hv : (!valB ⟨nl, n, s⟩) = (!s.toList.isEmpty || (nl && !decide (n = 0))) := by
    unfold valB
    rw [← ByteArray.toList_eq]
    cases s.toList.isEmpty <;> cases nl <;> by_cases hn : n = 0 <;> simp [hn]
  rw [hv]
  clear hv
  have ho : ∀ o, Old w (w.alloc o) := fun o => (Old.refl w).alloc o
  go_enter Tryz.func62, Tryz.ntmps62
  by_cases hs : s.toList = []
  · cases nl
    · go_wp2_with fail
      go_ret
      exact ⟨by simp [hs], ho _⟩
    · by_cases hn : n = 0
      · go_wp2_with fail
        go_ret
        exact ⟨by simp [hs, hn], ho _⟩
      · go_wp2_with fail
        go_ret
        exact ⟨by simp [hn], ho _⟩
  · go_wp2_with fail
    go_ret
    exact ⟨by simp [hs], ho _⟩

/-- the place of the first element that p holds of; -1: none -/
theorem any_at {α : Type} {l : List α} {p : α → Bool} {k : Nat} (hk : k < l.length) (h : p l[k] = true) : l.any p = true := List.any_eq_true.2 ⟨_, List.getElem_mem hk, h⟩
theorem any_none {α : Type} {l : List α} {p : α → Bool} (h : ∀ j : Nat, (hj : j < l.length) → p l[j] = false) : l.any p = false := by
  rw [List.any_eq_false]
  intro x hx
  obtain ⟨j, hj, rfl⟩ := List.getElem_of_mem hx
  simp [h j hj]

set_option maxRecDepth 100000 in
set_option maxHeartbeats 400000 in
theorem index_odd (v : Value) (r : List Cell) (w : World) (hr : RowIs w v r) :
    Calls Tryz.prog 80 #[v, .func (.func 62) #[] #[]] w fun e w' => (∃ i : Int, e = .returned (.int .i64 i) ∧ decide (0 ≤ i) = r.any fun c => !valB c) ∧ Old w w' := by
  obtain ⟨A, ca, rfl, hla, hma, ha⟩ := hr.row
  unfold maxLen at hma
  go_enter Tryz.func80, Tryz.ntmps80
  go_wp2_with fail
  go_loopw [8] (fun i wr => ∃ k : Nat, i = .int .i64 k ∧ k ≤ r.length ∧ Hid (∀ j : Nat, j < k → (hj' : j < r.length) → (!valB r[j]) = false) ∧ Old w wr) (fun i _ => r.length - (intOf i).toNat)
  case atStart => exact ⟨0, rfl, by omega, hide (by intro j hj; omega), Old.refl _⟩
  case round =>
    obtain ⟨k, rfl, hk, HN, hbl⟩ := hrel
    by_cases hlt : k < r.length
    · obtain ⟨b1, o1, rfl, hc1⟩ := ha.resolve_left (by omega)
      obtain ⟨x0, x1, x2⟩ := hc1 k hlt
      have y0 := hbl.cell x0
      have y1 := hbl.cell x1
      have y2 := hbl.cell x2
      have HC := hide (odd_run r[k] wr)
      clear ha hc1 x0 x1 x2
      go_wp2_with fail
      refine HC.out.mono ?_
      rintro e w1 ⟨rfl, h1⟩
      clear y0 y1 y2
      cases hs : valB r[k]
      · have HS := hide hs
        clear hs
        go_wp2_with fail
        go_ret
        refine ⟨⟨(k : Int), rfl, ?_⟩, Old.trans hbl h1⟩
        rw [any_at (k := k) hlt (by rw [HS.out]; rfl)]
        simp
      · have HS := hide hs
        clear hs
        go_wp2_with fail
        go_roundw
        case rel => exact ⟨k + 1, by go_num, by omega, hide (fun j hj hj' => by
          rcases Nat.lt_or_ge j k with h | h
          · exact HN.out j h hj'
          · have : j = k := by omega
            subst this
            rw [HS.out]; rfl), Old.trans hbl h1⟩
        case measure => simp [intOf]; omega
    · go_wp2_with fail
      go_ret
      refine ⟨⟨-1, rfl, ?_⟩, hbl⟩
      rw [any_none fun j hj => HN.out j (by omega) hj]
      rfl
set_option maxRecDepth 100000 in
theorem contains_odd (v : Value) (r : List Cell) (w : World) (hr : RowIs w v r) :
    Calls Tryz.prog 63 #[v, .func (.func 62) #[] #[]] w fun e w' => e = .returned (.bool (r.any fun c => !valB c)) ∧ Old w w' := by
  have HC := hide (index_odd v r w hr)
  clear hr
  go_enter Tryz.func63, Tryz.ntmps63
  go_wp2_with fail
  refine HC.out.mono ?_
  rintro e w1 ⟨⟨i, rfl, hi⟩, h1⟩
  have HI := hide hi
  clear hi
  go_wp2_with fail
  go_ret
  exact ⟨by rw [← HI.out]; rfl, h1⟩
end Go.Proofs.YtmfbblcipakaiaaGreatDoor

/-! ### More of what the program's groups ask ahead of Apply. -/
namespace Go.Proofs.YtmfbblcipakaiaaGreatDoor
open Go.RowKit

/-- the head of a Groups: that it is made, how many cells a key has, how many sums there are -/
structure GHead (w : World) (g K S : Nat) : Prop where
  c0 : w.cell? ⟨g, 0, none⟩ = some (.bool true)
  c1 : w.cell? ⟨g, 1, none⟩ = some (.int .i64 K)
  c2 : w.cell? ⟨g, 2, none⟩ = some (.int .i64 S)
theorem GHead.old {w w' : World} {g K S : Nat} (h : GHead w g K S) (o : Old w w') : GHead w' g K S := ⟨o.cell h.c0, o.cell h.c1, o.cell h.c2⟩

set_option maxRecDepth 100000 in
theorem none_made (g : Nat) (w : World) (h : w.cell? ⟨g, 0, none⟩ = some (.bool true)) : Calls Tryz.prog 31 #[.pointer (some ⟨g, 0, none⟩)] w fun e w' => e = .returned (.bool false) ∧ w = w' := by
  go_enter Tryz.func31, Tryz.ntmps31
  go_wp2_with fail
  go_ret
  exact ⟨rfl, rfl⟩
set_option maxRecDepth 100000 in
theorem none_fresh (g : Nat) (w : World) (h : w.cell? ⟨g, 0, none⟩ = some (.bool false)) : Calls Tryz.prog 31 #[.pointer (some ⟨g, 0, none⟩)] w fun e w' => e = .returned (.bool true) ∧ w = w' := by
  go_enter Tryz.func31, Tryz.ntmps31
  go_wp2_with fail
  go_ret
  exact ⟨rfl, rfl⟩
set_option maxRecDepth 100000 in
theorem none_nil (w : World) : Calls Tryz.prog 31 #[.pointer none] w fun e w' => e = .returned (.bool true) ∧ w = w' := by
  go_enter Tryz.func31, Tryz.ntmps31
  go_wp2_with fail
  go_ret
  exact ⟨rfl, rfl⟩

set_option maxRecDepth 100000 in
set_option maxHeartbeats 400000 in
theorem may_run (g K S : Nat) (kv vv : Value) (x : Ent) (w : World) (hg : GHead w g K S) (hk : RowIs w kv x.key) (hv : RowIs w vv x.vals) (hK : K ≤ 1048576) (hS : S ≤ 1048576) :
    Calls Tryz.prog 34 #[.pointer (some ⟨g, 0, none⟩), .agg #[kv, vv, .int .i64 x.w]] w fun e w' => e = .returned (.bool (entMay K S x)) ∧ Old w w' := by
  have HV := hide hv
  obtain ⟨A, ca, rfl, hla, hma, -⟩ := hk.row
  obtain ⟨B, cb, rfl, hlb, hmb, -⟩ := hv.row
  unfold maxLen at hma hmb
  have H1 := hide hg.c1
  have H2 := hide hg.c2
  have he : entMay K S x = (decide (x.key.length = K) && decide (x.vals.length = S) && !(x.vals.any fun c => !valB c)) := by
    unfold entMay
    congr 1
    rw [List.not_any_eq_all_not]
    simp
  rw [he]
  obtain ⟨T, hT⟩ : ∃ T, Hid ((x.vals.any fun c => !valB c) = T) := ⟨_, hide rfl⟩
  rw [hT.out]
  clear he hk hv hg
  go_enter Tryz.func34, Tryz.ntmps34
  go_wp2_with fail
  have h1 : ∀ p : Later (w.alloc (.cells #[.slice A x.key.length ca, .slice B x.vals.length cb, .int .i64 x.w] 51)), p.world.cell? ⟨g, 1, none⟩ = some (.int .i64 K) := fun p => p.old.cell (((Old.refl w).alloc _).cell H1.out)
  have h2 : ∀ p : Later (w.alloc (.cells #[.slice A x.key.length ca, .slice B x.vals.length cb, .int .i64 x.w] 51)), p.world.cell? ⟨g, 2, none⟩ = some (.int .i64 S) := fun p => p.old.cell (((Old.refl w).alloc _).cell H2.out)
  have b0 : ∀ p : Later (w.alloc (.cells #[.slice A x.key.length ca, .slice B x.vals.length cb, .int .i64 x.w] 51)), p.world.cell? ⟨w.heap.size, 0, none⟩ = some (.slice A x.key.length ca) := fun p => p.old.cell (by go_simp)
  have b1 : ∀ p : Later (w.alloc (.cells #[.slice A x.key.length ca, .slice B x.vals.length cb, .int .i64 x.w] 51)), p.world.cell? ⟨w.heap.size, 1, none⟩ = some (.slice B x.vals.length cb) := fun p => p.old.cell (by go_simp)
  have HC := hide (show ∀ p : Later (w.alloc (.cells #[.slice A x.key.length ca, .slice B x.vals.length cb, .int .i64 x.w] 51)), Calls Tryz.prog 63 #[.slice B x.vals.length cb, .func (.func 62) #[] #[]] p.world fun e w' => e = .returned (.bool T) ∧ Old p.world w' from fun p => by
    rw [← hT.out]; exact contains_odd _ _ _ (HV.out.old (((Old.refl w).alloc _).trans p.old)))
  by_cases e1 : x.key.length = K
  · subst e1
    by_cases e2 : x.vals.length = S
    · subst e2
      refine region_later (by kernel_rfl) (by kernel_rfl) ?_
      repeat (go_big_quiet_step ((go_at_call 63; exact Later.call (HC.out _))))
      refine wpQuiet_nil ?_
      rintro wq ⟨⟨_, hwq⟩, rfl⟩
      go_wp2_with fail
      go_ret
      exact ⟨by simp, ((Old.refl w).alloc _).trans hwq⟩
    · have i2 : ((x.vals.length : Int) == (S : Int)) = false := by simp; omega
      refine region_later (by kernel_rfl) (by kernel_rfl) ?_
      repeat (go_big_quiet_step ((go_at_call 63; exact Later.call (HC.out _))))
      refine wpQuiet_nil ?_
      rintro wq ⟨⟨_, hwq⟩, rfl⟩
      go_wp2_with fail
      go_ret
      exact ⟨by simp, ((Old.refl w).alloc _).trans hwq⟩
  · have i2 : ((x.key.length : Int) == (K : Int)) = false := by simp; omega
    refine region_later (by kernel_rfl) (by kernel_rfl) ?_
    repeat (go_big_quiet_step ((go_at_call 63; exact Later.call (HC.out _))))
    refine wpQuiet_nil ?_
    rintro wq ⟨⟨_, hwq⟩, rfl⟩
    go_wp2_with fail
    go_ret
    exact ⟨by simp [e1], ((Old.refl w).alloc _).trans hwq⟩
set_option maxRecDepth 100000 in
theorem odd_ent (q g K S : Nat) (kv vv : Value) (x : Ent) (w : World) (hq : w.cell? ⟨q, 0, none⟩ = some (.pointer (some ⟨g, 0, none⟩))) (hg : GHead w g K S) (hk : RowIs w kv x.key) (hv : RowIs w vv x.vals) (hK : K ≤ 1048576) (hS : S ≤ 1048576) :
    Calls Tryz.prog 33 #[.agg #[kv, vv, .int .i64 x.w], .pointer (some ⟨q, 0, none⟩)] w fun e w' => e = .returned (.bool (!entMay K S x)) ∧ Old w w' := by
  have HQ := hide hq
  have HC := hide (show ∀ o, Calls Tryz.prog 34 #[.pointer (some ⟨g, 0, none⟩), .agg #[kv, vv, .int .i64 x.w]] (w.alloc o) fun e w' => e = .returned (.bool (entMay K S x)) ∧ Old (w.alloc o) w' from fun o =>
    may_run g K S kv vv x _ (hg.old ((Old.refl w).alloc o)) (hk.old ((Old.refl w).alloc o)) (hv.old ((Old.refl w).alloc o)) hK hS)
  have hqb : q < w.heap.size := World.block_lt_of_cell? w _ hq
  obtain ⟨A, ca, rfl, -⟩ := hk.row
  obtain ⟨B, cb, rfl, -⟩ := hv.row
  clear hg hk hv
  go_enter Tryz.func33, Tryz.ntmps33
  go_wp2_with fail
  refine (HC.out _).mono ?_
  rintro e w1 ⟨rfl, h1⟩
  go_wp2_with fail
  go_ret
  exact ⟨rfl, ((Old.refl w).alloc _).trans h1⟩
set_option maxRecDepth 100000 in
set_option maxHeartbeats 400000 in
theorem index_may (q g K S : Nat) (v : Value) (l : List Ent) (w : World) (hq : w.cell? ⟨q, 0, none⟩ = some (.pointer (some ⟨g, 0, none⟩))) (hg : GHead w g K S) (hl : EntsIs w v l) (hK : K ≤ 1048576) (hS : S ≤ 1048576) :
    Calls Tryz.prog 61 #[v, .func (.func 33) #[] #[.pointer (some ⟨q, 0, none⟩)]] w fun e w' => (∃ i : Int, e = .returned (.int .i64 i) ∧ decide (0 ≤ i) = l.any fun x => !entMay K S x) ∧ Old w w' := by
  obtain ⟨A, ca, us, vs, rfl, hla, hma, hul, hvl, hur, hvr, ha⟩ := hl.open_
  unfold maxLen at hma
  have HC := hide (show ∀ i wr, (h : i < l.length) → (h1 : i < us.length) → (h2 : i < vs.length) → Old w wr → Calls Tryz.prog 33 #[.agg #[us[i], vs[i], .int .i64 l[i].w], .pointer (some ⟨q, 0, none⟩)] wr fun e w' => e = .returned (.bool (!entMay K S l[i])) ∧ Old wr w' from
    fun i wr h h1 h2 ho => odd_ent q g K S us[i] vs[i] l[i] wr (ho.cell hq) (hg.old ho) ((hur i h h1).old ho) ((hvr i h h2).old ho) hK hS)
  clear hur hvr hg hq
  go_enter Tryz.func61, Tryz.ntmps61
  go_wp2_with fail
  go_loopw [8] (fun i wr => ∃ k : Nat, i = .int .i64 k ∧ k ≤ l.length ∧ Hid (∀ j : Nat, j < k → (hj' : j < l.length) → (!entMay K S l[j]) = false) ∧ Old w wr) (fun i _ => l.length - (intOf i).toNat)
  case atStart => exact ⟨0, rfl, by omega, hide (by intro j hj; omega), Old.refl _⟩
  case round =>
    obtain ⟨k, rfl, hk, HN, hbl⟩ := hrel
    by_cases hlt : k < l.length
    · have hku : k < us.length := by omega
      have hkv : k < vs.length := by omega
      obtain ⟨b1, o1, rfl, hc1⟩ := ha.resolve_left (by omega)
      obtain ⟨x0, x1, x2⟩ := hc1 k hlt hku hkv
      have y0 := hbl.cell x0
      have y1 := hbl.cell x1
      have y2 := hbl.cell x2
      have HD := hide (HC.out k wr hlt hku hkv hbl)
      clear ha hc1 x0 x1 x2
      go_wp2_with fail
      refine HD.out.mono ?_
      rintro e w1 ⟨rfl, h1⟩
      clear y0 y1 y2
      cases hs : entMay K S l[k]
      · have HS := hide hs
        clear hs
        go_wp2_with fail
        go_ret
        refine ⟨⟨(k : Int), rfl, ?_⟩, Old.trans hbl h1⟩
        rw [any_at (k := k) hlt (by rw [HS.out]; rfl)]
        simp
      · have HS := hide hs
        clear hs
        go_wp2_with fail
        go_roundw
        case rel => exact ⟨k + 1, by go_num, by omega, hide (fun j hj hj' => by
          rcases Nat.lt_or_ge j k with h | h
          · exact HN.out j h hj'
          · have : j = k := by omega
            subst this
            rw [HS.out]; rfl), Old.trans hbl h1⟩
        case measure => simp [intOf]; omega
    · go_wp2_with fail
      go_ret
      refine ⟨⟨-1, rfl, ?_⟩, hbl⟩
      rw [any_none fun j hj => HN.out j (by omega) hj]
      rfl
set_option maxRecDepth 100000 in
theorem contains_may (q g K S : Nat) (v : Value) (l : List Ent) (w : World) (hq : w.cell? ⟨q, 0, none⟩ = some (.pointer (some ⟨g, 0, none⟩))) (hg : GHead w g K S) (hl : EntsIs w v l) (hK : K ≤ 1048576) (hS : S ≤ 1048576) :
    Calls Tryz.prog 32 #[v, .func (.func 33) #[] #[.pointer (some ⟨q, 0, none⟩)]] w fun e w' => e = .returned (.bool (!allMay K S l)) ∧ Old w w' := by
  have HC := hide (index_may q g K S v l w hq hg hl hK hS)
  have he : (!allMay K S l) = l.any fun x => !entMay K S x := by
    unfold allMay
    rw [List.not_all_eq_any_not]
  rw [he]
  clear hq hg hl he
  go_enter Tryz.func32, Tryz.ntmps32
  go_wp2_with fail
  refine HC.out.mono ?_
  rintro e w1 ⟨⟨i, rfl, hi⟩, h1⟩
  have HI := hide hi
  clear hi
  go_wp2_with fail
  go_ret
  exact ⟨by rw [← HI.out]; rfl, h1⟩

/-! ### is something left of a group? -/
set_option maxRecDepth 100000 in
theorem rest_run (n : Int) (w : World) : Calls Tryz.prog 39 #[.int .i64 n] w fun e w' => e = .returned (.bool (restB n)) ∧ w = w' := by
  go_enter Tryz.func39, Tryz.ntmps39
  go_wp2_with fail
  go_ret
  exact ⟨rfl, rfl⟩
set_option maxRecDepth 100000 in
set_option maxHeartbeats 400000 in
theorem index_rest (v : Value) (l : List Int) (w : World) (hl : Sl w v l.length (numVals l)) :
    Calls Tryz.prog 67 #[v, .func (.func 39) #[] #[]] w fun e w' => (∃ i : Int, e = .returned (.int .i64 i) ∧ decide (0 ≤ i) = l.any restB) ∧ Old w w' := by
  obtain ⟨A, ca, rfl, hla, hma, ha⟩ := hl
  unfold maxLen at hma
  have HA := hide ha
  clear ha
  go_enter Tryz.func67, Tryz.ntmps67
  go_wp2_with fail
  go_loopw [8] (fun i wr => ∃ k : Nat, i = .int .i64 k ∧ k ≤ l.length ∧ Hid (∀ j : Nat, j < k → (hj' : j < l.length) → restB l[j] = false) ∧ Old w wr) (fun i _ => l.length - (intOf i).toNat)
  case atStart => exact ⟨0, rfl, by omega, hide (by intro j hj; omega), Old.refl _⟩
  case round =>
    obtain ⟨k, rfl, hk, HN, hbl⟩ := hrel
    by_cases hlt : k < l.length
    · have g0 := numVals_get hlt
      obtain ⟨b1, o1, rfl, hc1⟩ := HA.out (by intro e; rw [e] at g0; simp at g0)
      have y0 := hbl.cell (hc1 _ _ g0)
      clear hc1 g0
      have HC := hide (rest_run l[k] wr)
      go_wp2_with fail
      refine HC.out.mono ?_
      rintro e w1 ⟨rfl, rfl⟩
      clear y0
      cases hs : restB l[k]
      · have HS := hide hs
        clear hs
        go_wp2_with fail
        go_roundw
        case rel => exact ⟨k + 1, by go_num, by omega, hide (fun j hj hj' => by
          rcases Nat.lt_or_ge j k with h | h
          · exact HN.out j h hj'
          · have : j = k := by omega
            subst this
            exact HS.out), hbl⟩
        case measure => simp [intOf]; omega
      · have HS := hide hs
        clear hs
        go_wp2_with fail
        go_ret
        refine ⟨⟨(k : Int), rfl, ?_⟩, hbl⟩
        rw [any_at (k := k) hlt HS.out]
        simp
    · go_wp2_with fail
      go_ret
      refine ⟨⟨-1, rfl, ?_⟩, hbl⟩
      rw [any_none fun j hj => HN.out j (by omega) hj]
      rfl
set_option maxRecDepth 100000 in
theorem contains_rest (v : Value) (l : List Int) (w : World) (hl : Sl w v l.length (numVals l)) :
    Calls Tryz.prog 38 #[v, .func (.func 39) #[] #[]] w fun e w' => e = .returned (.bool (l.any restB)) ∧ Old w w' := by
  have HC := hide (index_rest v l w hl)
  clear hl
  go_enter Tryz.func38, Tryz.ntmps38
  go_wp2_with fail
  refine HC.out.mono ?_
  rintro e w1 ⟨⟨i, rfl, hi⟩, h1⟩
  have HI := hide hi
  clear hi
  go_wp2_with fail
  go_ret
  exact ⟨by rw [← HI.out]; rfl, h1⟩
end Go.Proofs.YtmfbblcipakaiaaGreatDoor

/-! ### The row of a group that is seen: the walk of seen. -/
namespace Go.Proofs.YtmfbblcipakaiaaGreatDoor
open Go.RowKit

/-- a new row that may be appended to is handed back -/
def NewRowO (w0 : World) (r : List Cell) (e : Ending) (w' : World) : Prop :=
  ∃ v, e = .returned v ∧ w'.ownsRow w0.heap.size 65 3 v r.length (rowVals r) ∧ Old w0 w'
set_option maxRecDepth 100000 in
theorem clone_own (v : Value) (r : List Cell) (w : World) (h : RowIs w v r) (hlen : r.length ≤ 1048576) : Calls Tryz.prog 76 #[v] w (NewRowO w r) := by
  have H := Lib.hid h
  obtain ⟨A, cap, rfl, h1, h2, h3⟩ := h
  rcases A with _ | ad
  · have h0 : r.length = 0 := by
      rcases Nat.eq_zero_or_pos r.length with h | h
      · exact h
      · obtain ⟨b, off, hb, _⟩ := h3 (rowVals_ne h)
        cases hb
    have H0 := Lib.hid h0
    clear h3 h0
    have kn : ∀ w, (binOp .eql 49 (.slice none r.length cap) (.slice none 0 0)).run Tryz.prog w = .ok (.bool true) w := fun w => Lib.run_eql_slice_nil w _ _ _ _ _ _ _ Tryz.underlying49
    go_enter Tryz.func76, Tryz.ntmps76
    go_wp2
    go_ret
    refine ⟨_, rfl, ?_, Old.refl _⟩
    rw [H0.out, rowVals_nil H0.out]
    exact World.ownsRow_nil _ _ _ _
  · clear h3
    have kn : ∀ w, (binOp .eql 49 (.slice (some ad) r.length cap) (.slice none 0 0)).run Tryz.prog w = .ok (.bool false) w := fun w => Lib.run_eql_slice_nil w _ _ _ _ _ _ _ Tryz.underlying49
    go_enter Tryz.func76, Tryz.ntmps76
    go_wp2_with (at_builtin; refine wpList_plain rfl (fun K hK => ?_); refine step_push_row _ _ _ rfl w.heap.size _ [] rfl (World.ownsRow_lit w #[] 0 (Nat.le_refl _) (by unfold maxLen; omega) rfl) _ r rfl (Sl.old H.out (Old.alloc (Old.refl w) _)) (by simp; omega) (by simp) ?_; intro v' w' own hk; refine hK _ _ ?_; clear hK)
    go_ret
    exact ⟨_, rfl, own, hk.old (Old.alloc (Old.refl _) _) (Nat.le_refl _)⟩
theorem row_own (v : Value) (r : List Cell) (w : World) (h : RowIs w v r) (hlen : r.length ≤ 1048576) : Calls Tryz.prog 55 #[v] w (NewRowO w r) := by
  have c := clone_own v r w h hlen
  have C := Lib.hid c
  clear c h
  go_enter Tryz.func55, Tryz.ntmps55
  go_wp2_with fail
  refine C.out.mono ?_
  rintro e w1 ⟨u, rfl, h1, h2⟩
  go_wp2_with fail
  go_ret
  exact ⟨u, rfl, h1, h2⟩

/-- the row of a group that is seen -/
def seenV (k : List Cell) (ns : List Int) (wt : Int) : List Item := if ns.headD 0 = 0 then [] else [⟨k ++ ns.map numCell, wt⟩]
theorem seenV_nums (S : Nat) (f : Gf) (k : List Cell) (wt : Int) : seenV k (numsOf S f k) wt = seenIt S f k wt := by
  have h : (numsOf S f k).headD 0 = f k 0 := by
    unfold numsOf
    rw [List.range_succ_eq_map]
    rfl
  unfold seenV seenIt rowOf
  rw [h]
theorem num_head {l : List Int} (h : 0 < l.length) : (numVals l)[0]? = some (.int .i64 (l.headD 0)) := by
  cases l with
  | nil => simp at h
  | cons n l => rfl
theorem own_low {w : World} {base base' T size n : Nat} {v : Value} {xs : List Value} (h : w.ownsRow base T size v n xs) (hb : base' ≤ base) : w.ownsRow base' T size v n xs := by
  obtain ⟨hl, h2⟩ := h
  refine ⟨hl, ?_⟩
  rcases h2 with h2 | ⟨g, cap, cur, rfl, hb', r⟩
  · exact .inl h2
  · exact .inr ⟨g, cap, cur, rfl, Nat.le_trans hb hb', r⟩
theorem one_row {w : World} {g cap : Nat} {c : Cell} (h0 : w.cell? ⟨g, 0, none⟩ = some (.bool c.null)) (h1 : w.cell? ⟨g, 1, none⟩ = some (.int .i64 c.n)) (h2 : w.cell? ⟨g, 2, none⟩ = some (.string c.s)) (hc : 1 ≤ cap) (hm : cap ≤ maxLen) : RowIs w (.slice (some ⟨g, 0, none⟩) 1 cap) [c] := by
  refine ⟨_, cap, rfl, hc, hm, fun _ => ⟨g, 0, rfl, fun j u hu => ?_⟩⟩
  match j, hu with
  | 0, hu => simp [rowVals, Cell.vals] at hu; subst hu; exact h0
  | 1, hu => simp [rowVals, Cell.vals] at hu; subst hu; exact h1
  | 2, hu => simp [rowVals, Cell.vals] at hu; subst hu; exact h2
  | j + 3, hu => simp [rowVals, Cell.vals] at hu
/-- one item in a block of its own -/
theorem one_item {w : World} {lo g cap : Nat} {v : Value} {r : List Cell} {wt : Int} (hlo : lo ≤ g) (hh : w.heap[g]? = some (.cells #[v, .int .i64 wt] 60 (0, 0))) (hc : 1 ≤ cap) (hm : cap ≤ maxLen) (hr : SlT 65 lo w v r.length (rowVals r)) : ItemsT 60 65 lo w (.slice (some ⟨g, 0, none⟩) 1 cap) [⟨r, wt⟩] := by
  refine ⟨[v], rfl, ⟨_, cap, rfl, hc, hm, fun _ => ⟨g, 0, _, rfl, hlo, hh, fun j u hu => ?_⟩⟩, fun i hi hi' => ?_⟩
  · match j, hu with
    | 0, hu => simpa [itemVals] using hu
    | 1, hu => simpa [itemVals] using hu
    | j + 2, hu => simp [itemVals] at hu
  · have : i = 0 := by simpa using hi
    subst this
    exact hr
theorem take_snoc {α : Type} {l : List α} {k : Nat} (h : k < l.length) : l.take (k + 1) = l.take k ++ [l[k]] := List.take_succ_eq_append_getElem h

set_option maxRecDepth 100000 in
set_option maxHeartbeats 1000000 in
theorem seen_run (kv nv : Value) (k : List Cell) (ns : List Int) (wt : Int) (w : World) (hk : RowIs w kv k) (hn : Sl w nv ns.length (numVals ns)) (hkl : k.length ≤ 1048576) (hnl : ns.length ≤ 1048576) :
    Calls Tryz.prog 37 #[.agg #[kv, nv], .int .i64 wt] w (NewItems w (seenV k ns wt)) := by
  have HK := hide hk
  obtain ⟨Ak, ck, rfl, -, -, -⟩ := hk
  obtain ⟨A, ca, rfl, hla, hma, ha⟩ := hn
  unfold maxLen at hma
  have HA := hide ha
  clear ha
  have hw1 := fun o => (Old.refl w).alloc o
  obtain ⟨n0, hn0⟩ : ∃ n0, Hid (ns.headD 0 = n0) := ⟨_, hide rfl⟩
  obtain ⟨N, hN⟩ : ∃ N, Hid (ns.length = N) := ⟨_, hide rfl⟩
  have hG0 := hide (fun h : 0 < ns.length => num_head h)
  unfold seenV
  rw [hn0.out]
  rw [hN.out] at hla hnl ⊢
  by_cases hl : N = 0
  · have : n0 = 0 := by
      rw [← hn0.out]
      have h : ns.length = 0 := hN.out.trans hl
      rw [List.eq_nil_of_length_eq_zero h]; rfl
    rw [this, if_pos rfl]
    subst hl
    clear hG0
    go_enter Tryz.func37, Tryz.ntmps37
    go_wp2_with fail
    go_ret
    exact ⟨_, rfl, ⟨[], rfl, SlT.nil_ _, fun i h => absurd h (by simp)⟩, hw1 _⟩
  · have hne : ((N : Int) == 0) = false := by simp; omega
    have g0 := hG0.out (by rw [hN.out]; omega)
    rw [hn0.out] at g0
    obtain ⟨b1, o1, rfl, hc1⟩ := HA.out (by intro e; rw [e] at g0; simp at g0)
    have HC1 := hide hc1
    have y0 : ∀ o, (w.alloc o).cell? ⟨b1, o1, none⟩ = some (.int .i64 n0) := fun o => (hw1 o).cell (by simpa using hc1 _ _ g0)
    clear hc1 g0 hG0
    by_cases hz : n0 = 0
    · subst hz
      rw [if_pos rfl]
      go_enter Tryz.func37, Tryz.ntmps37
      go_wp2_with fail
      go_ret
      exact ⟨_, rfl, ⟨[], rfl, SlT.nil_ _, fun i h => absurd h (by simp)⟩, hw1 _⟩
    · rw [if_neg hz]
      have hz' : (n0 == 0) = false := by simpa using hz
      have HC := hide (fun o => row_own (.slice Ak k.length ck) k (w.alloc o) (HK.out.old (hw1 o)) hkl)
      clear hz
      go_enter Tryz.func37, Tryz.ntmps37
      go_wp2_with fail
      refine (HC.out _).mono ?_
      rintro e w1 ⟨u, rfl, hown, ho⟩
      have HO := hide ((hw1 _).trans ho)
      have z1 : w1.cell? ⟨w.heap.size, 1, none⟩ = some (.slice (some ⟨b1, o1, none⟩) N ca) := ho.cell (by go_simp)
      have HOWN := hide (show w1.ownsRow w.heap.size 65 3 u k.length (rowVals k) from own_low hown (by simp))
      clear hown ho y0 HC hz' hne
      go_wp2_with fail
      go_loopw [5, 25] (fun o i wr => ∃ j : Nat, i = .int .i64 j ∧ j ≤ N ∧ Hid (wr.ownsRow w.heap.size 65 3 o (k ++ (ns.take j).map numCell).length (rowVals (k ++ (ns.take j).map numCell))) ∧ Hid (Old w wr)) (fun _ i _ => N - (intOf i).toNat)
      case atStart => exact ⟨0, rfl, by omega, by simpa using HOWN, HO⟩
      case round =>
        obtain ⟨j, rfl, hj, HW, HL⟩ := hrel
        by_cases hlt : j < N
        · have hjn : j < ns.length := by rw [hN.out]; exact hlt
          have g1 := numVals_get hjn
          have y1 : wr.cell? ⟨b1, o1 + j, none⟩ = some (.int .i64 ns[j]) := HL.out.cell (HC1.out _ _ g1)
          obtain ⟨x, hx⟩ : ∃ x, Hid (ns[j] = x) := ⟨_, hide rfl⟩
          rw [hx.out] at y1
          clear g1
          go_wp2_with (at_builtin; refine wpList_plain rfl (fun K hK => ?_); refine step_push_row _ _ _ rfl w.heap.size _ _ rfl (own_old HW.out ((Old.refl wr).alloc _)) _ [⟨false, x, ⟨#[]⟩⟩] rfl (one_row (by go_simp) (by go_simp) (by go_simp) (Nat.le_refl _) (by unfold maxLen; omega)) (by simp; omega) (Nat.le_trans HL.out.size (by simp)) ?_; intro v' w' own hk; refine hK _ _ ?_; clear hK)
          go_roundw
          case rel => exact ⟨j + 1, by go_num, by omega, hide (by
            rw [take_snoc hjn, hx.out, List.map_append, ← List.append_assoc]
            exact own), hide (hk.old (HL.out.alloc _) (Nat.le_refl _))⟩
          case measure => simp [intOf]; omega
        · have hjN : j = N := by omega
          subst hjN
          have hall : ns.take j = ns := List.take_of_length_le (by rw [hN.out]; exact Nat.le_refl _)
          have HW2 := hide (show wr.ownsRow w.heap.size 65 3 u5 (k ++ ns.map numCell).length (rowVals (k ++ ns.map numCell)) from by have := HW.out; rw [hall] at this; exact this)
          obtain ⟨A5, c5, rfl, _⟩ := id (SlT.of_own HW2.out)
          clear HW hall
          go_wp2_with fail
          go_ret
          exact ⟨_, rfl, one_item (by simpa using HL.out.size) (by simp only [List.length_append, List.length_map]; exact Array.getElem?_push_size) (Nat.le_refl _) (by unfold maxLen; omega) (SlT.of_own (own_old HW2.out ((Old.refl wr).alloc _))), HL.out.alloc _⟩
end Go.Proofs.YtmfbblcipakaiaaGreatDoor
