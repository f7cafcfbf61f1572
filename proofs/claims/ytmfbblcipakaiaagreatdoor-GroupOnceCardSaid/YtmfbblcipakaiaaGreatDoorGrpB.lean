/- More of what the program's groups ask ahead of Apply. -/
import Derived.Test.YtmfbblcipakaiaaGreatDoorGrpA
import Derived.Test.YtmfbblcipakaiaaGreatDoorGrpG
import Derived.Deep.RegionHeld3
namespace Go.Proofs.YtmfbblcipakaiaaGreatDoor
open Go.RowKit

/-- the head of a Groups: that it is made, how many cells a key has, how many sums there are -/
structure GHead (w : World) (g K S : Nat) : Prop where
  c0 : w.cell? ⟨g, 0, none⟩ = some (.bool true)
  c1 : w.cell? ⟨g, 1, none⟩ = some (.int .i64 K)
  c2 : w.cell? ⟨g, 2, none⟩ = some (.int .i64 S)
theorem GHead.old {w w' : World} {g K S : Nat} (h : GHead w g K S) (o : Old w w') : GHead w' g K S := ⟨o.cell h.c0, o.cell h.c1, o.cell h.c2⟩

set_option maxRecDepth 100000 in
theorem none_made (g : Nat) (w : World) (h : w.cell? ⟨g, 0, none⟩ = some (.bool true)) : Calls Tryz.prog 31 #[.pointer (some ⟨g, 0, none⟩)] w fun e w' => e = .returned (.bool false) ∧ w = w' := by
  go_enter Tryz.func31, Tryz.ntmps31
  go_wp2_with fail
  go_ret
  exact ⟨rfl, rfl⟩
set_option maxRecDepth 100000 in
theorem none_fresh (g : Nat) (w : World) (h : w.cell? ⟨g, 0, none⟩ = some (.bool false)) : Calls Tryz.prog 31 #[.pointer (some ⟨g, 0, none⟩)] w fun e w' => e = .returned (.bool true) ∧ w = w' := by
  go_enter Tryz.func31, Tryz.ntmps31
  go_wp2_with fail
  go_ret
  exact ⟨rfl, rfl⟩
set_option maxRecDepth 100000 in
theorem none_nil (w : World) : Calls Tryz.prog 31 #[.pointer none] w fun e w' => e = .returned (.bool true) ∧ w = w' := by
  go_enter Tryz.func31, Tryz.ntmps31
  go_wp2_with fail
  go_ret
  exact ⟨rfl, rfl⟩

set_option maxRecDepth 100000 in
set_option maxHeartbeats 400000 in
theorem may_run (g K S : Nat) (kv vv : Value) (x : Ent) (w : World) (hg : GHead w g K S) (hk : RowIs w kv x.key) (hv : RowIs w vv x.vals) (hK : K ≤ 1048576) (hS : S ≤ 1048576) :
    Calls Tryz.prog 34 #[.pointer (some ⟨g, 0, none⟩), .agg #[kv, vv, .int .i64 x.w]] w fun e w' => e = .returned (.bool (entMay K S x)) ∧ Old w w' := by
  have HV := hide hv
  obtain ⟨A, ca, rfl, hla, hma, -⟩ := hk.row
  obtain ⟨B, cb, rfl, hlb, hmb, -⟩ := hv.row
  unfold maxLen at hma hmb
  have H1 := hide hg.c1
  have H2 := hide hg.c2
  have he : entMay K S x = (decide (x.key.length = K) && decide (x.vals.length = S) && !(x.vals.any fun c => !valB c)) := by
    unfold entMay
    congr 1
    rw [List.not_any_eq_all_not]
    simp
  rw [he]
  obtain ⟨T, hT⟩ : ∃ T, Hid ((x.vals.any fun c => !valB c) = T) := ⟨_, hide rfl⟩
  rw [hT.out]
  clear he hk hv hg
  go_enter Tryz.func34, Tryz.ntmps34
  go_wp2_with fail
  have h1 : ∀ p : Later (w.alloc (.cells #[.slice A x.key.length ca, .slice B x.vals.length cb, .int .i64 x.w] 51)), p.world.cell? ⟨g, 1, none⟩ = some (.int .i64 K) := fun p => p.old.cell (((Old.refl w).alloc _).cell H1.out)
  have h2 : ∀ p : Later (w.alloc (.cells #[.slice A x.key.length ca, .slice B x.vals.length cb, .int .i64 x.w] 51)), p.world.cell? ⟨g, 2, none⟩ = some (.int .i64 S) := fun p => p.old.cell (((Old.refl w).alloc _).cell H2.out)
  have b0 : ∀ p : Later (w.alloc (.cells #[.slice A x.key.length ca, .slice B x.vals.length cb, .int .i64 x.w] 51)), p.world.cell? ⟨w.heap.size, 0, none⟩ = some (.slice A x.key.length ca) := fun p => p.old.cell (by go_simp)
  have b1 : ∀ p : Later (w.alloc (.cells #[.slice A x.key.length ca, .slice B x.vals.length cb, .int .i64 x.w] 51)), p.world.cell? ⟨w.heap.size, 1, none⟩ = some (.slice B x.vals.length cb) := fun p => p.old.cell (by go_simp)
  have HC := hide (show ∀ p : Later (w.alloc (.cells #[.slice A x.key.length ca, .slice B x.vals.length cb, .int .i64 x.w] 51)), Calls Tryz.prog 63 #[.slice B x.vals.length cb, .func (.func 62) #[] #[]] p.world fun e w' => e = .returned (.bool T) ∧ Old p.world w' from fun p => by
    rw [← hT.out]; exact contains_odd _ _ _ (HV.out.old (((Old.refl w).alloc _).trans p.old)))
  by_cases e1 : x.key.length = K
  · subst e1
    by_cases e2 : x.vals.length = S
    · subst e2
      refine region_later (by kernel_rfl) (by kernel_rfl) ?_
      repeat (go_big_quiet_step ((go_at_call 63; exact Later.call (HC.out _))))
      refine wpQuiet_nil ?_
      rintro wq ⟨⟨_, hwq⟩, rfl⟩
      go_wp2_with fail
      go_ret
      exact ⟨by simp, ((Old.refl w).alloc _).trans hwq⟩
    · have i2 : ((x.vals.length : Int) == (S : Int)) = false := by simp; omega
      refine region_later (by kernel_rfl) (by kernel_rfl) ?_
      repeat (go_big_quiet_step ((go_at_call 63; exact Later.call (HC.out _))))
      refine wpQuiet_nil ?_
      rintro wq ⟨⟨_, hwq⟩, rfl⟩
      go_wp2_with fail
      go_ret
      exact ⟨by simp, ((Old.refl w).alloc _).trans hwq⟩
  · have i2 : ((x.key.length : Int) == (K : Int)) = false := by simp; omega
    refine region_later (by kernel_rfl) (by kernel_rfl) ?_
    repeat (go_big_quiet_step ((go_at_call 63; exact Later.call (HC.out _))))
    refine wpQuiet_nil ?_
    rintro wq ⟨⟨_, hwq⟩, rfl⟩
    go_wp2_with fail
    go_ret
    exact ⟨by simp [e1], ((Old.refl w).alloc _).trans hwq⟩
set_option maxRecDepth 100000 in
theorem odd_ent (q g K S : Nat) (kv vv : Value) (x : Ent) (w : World) (hq : w.cell? ⟨q, 0, none⟩ = some (.pointer (some ⟨g, 0, none⟩))) (hg : GHead w g K S) (hk : RowIs w kv x.key) (hv : RowIs w vv x.vals) (hK : K ≤ 1048576) (hS : S ≤ 1048576) :
    Calls Tryz.prog 33 #[.agg #[kv, vv, .int .i64 x.w], .pointer (some ⟨q, 0, none⟩)] w fun e w' => e = .returned (.bool (!entMay K S x)) ∧ Old w w' := by
  have HQ := hide hq
  have HC := hide (show ∀ o, Calls Tryz.prog 34 #[.pointer (some ⟨g, 0, none⟩), .agg #[kv, vv, .int .i64 x.w]] (w.alloc o) fun e w' => e = .returned (.bool (entMay K S x)) ∧ Old (w.alloc o) w' from fun o =>
    may_run g K S kv vv x _ (hg.old ((Old.refl w).alloc o)) (hk.old ((Old.refl w).alloc o)) (hv.old ((Old.refl w).alloc o)) hK hS)
  have hqb : q < w.heap.size := World.block_lt_of_cell? w _ hq
  obtain ⟨A, ca, rfl, -⟩ := hk.row
  obtain ⟨B, cb, rfl, -⟩ := hv.row
  clear hg hk hv
  go_enter Tryz.func33, Tryz.ntmps33
  go_wp2_with fail
  refine (HC.out _).mono ?_
  rintro e w1 ⟨rfl, h1⟩
  go_wp2_with fail
  go_ret
  exact ⟨rfl, ((Old.refl w).alloc _).trans h1⟩
set_option maxRecDepth 100000 in
set_option maxHeartbeats 400000 in
theorem index_may (q g K S : Nat) (v : Value) (l : List Ent) (w : World) (hq : w.cell? ⟨q, 0, none⟩ = some (.pointer (some ⟨g, 0, none⟩))) (hg : GHead w g K S) (hl : EntsIs w v l) (hK : K ≤ 1048576) (hS : S ≤ 1048576) :
    Calls Tryz.prog 61 #[v, .func (.func 33) #[] #[.pointer (some ⟨q, 0, none⟩)]] w fun e w' => (∃ i : Int, e = .returned (.int .i64 i) ∧ decide (0 ≤ i) = l.any fun x => !entMay K S x) ∧ Old w w' := by
  obtain ⟨A, ca, us, vs, rfl, hla, hma, hul, hvl, hur, hvr, ha⟩ := hl.open_
  unfold maxLen at hma
  have HC := hide (show ∀ i wr, (h : i < l.length) → (h1 : i < us.length) → (h2 : i < vs.length) → Old w wr → Calls Tryz.prog 33 #[.agg #[us[i], vs[i], .int .i64 l[i].w], .pointer (some ⟨q, 0, none⟩)] wr fun e w' => e = .returned (.bool (!entMay K S l[i])) ∧ Old wr w' from
    fun i wr h h1 h2 ho => odd_ent q g K S us[i] vs[i] l[i] wr (ho.cell hq) (hg.old ho) ((hur i h h1).old ho) ((hvr i h h2).old ho) hK hS)
  clear hur hvr hg hq
  go_enter Tryz.func61, Tryz.ntmps61
  go_wp2_with fail
  go_loopw [8] (fun i wr => ∃ k : Nat, i = .int .i64 k ∧ k ≤ l.length ∧ Hid (∀ j : Nat, j < k → (hj' : j < l.length) → (!entMay K S l[j]) = false) ∧ Old w wr) (fun i _ => l.length - (intOf i).toNat)
  case atStart => exact ⟨0, rfl, by omega, hide (by intro j hj; omega), Old.refl _⟩
  case round =>
    obtain ⟨k, rfl, hk, HN, hbl⟩ := hrel
    by_cases hlt : k < l.length
    · have hku : k < us.length := by omega
      have hkv : k < vs.length := by omega
      obtain ⟨b1, o1, rfl, hc1⟩ := ha.resolve_left (by omega)
      obtain ⟨x0, x1, x2⟩ := hc1 k hlt hku hkv
      have y0 := hbl.cell x0
      have y1 := hbl.cell x1
      have y2 := hbl.cell x2
      have HD := hide (HC.out k wr hlt hku hkv hbl)
      clear ha hc1 x0 x1 x2
      go_wp2_with fail
      refine HD.out.mono ?_
      rintro e w1 ⟨rfl, h1⟩
      clear y0 y1 y2
      cases hs : entMay K S l[k]
      · have HS := hide hs
        clear hs
        go_wp2_with fail
        go_ret
        refine ⟨⟨(k : Int), rfl, ?_⟩, Old.trans hbl h1⟩
        rw [any_at (k := k) hlt (by rw [HS.out]; rfl)]
        simp
      · have HS := hide hs
        clear hs
        go_wp2_with fail
        go_roundw
        case rel => exact ⟨k + 1, by go_num, by omega, hide (fun j hj hj' => by
          rcases Nat.lt_or_ge j k with h | h
          · exact HN.out j h hj'
          · have : j = k := by omega
            subst this
            rw [HS.out]; rfl), Old.trans hbl h1⟩
        case measure => simp [intOf]; omega
    · go_wp2_with fail
      go_ret
      refine ⟨⟨-1, rfl, ?_⟩, hbl⟩
      rw [any_none fun j hj => HN.out j (by omega) hj]
      rfl
set_option maxRecDepth 100000 in
theorem contains_may (q g K S : Nat) (v : Value) (l : List Ent) (w : World) (hq : w.cell? ⟨q, 0, none⟩ = some (.pointer (some ⟨g, 0, none⟩))) (hg : GHead w g K S) (hl : EntsIs w v l) (hK : K ≤ 1048576) (hS : S ≤ 1048576) :
    Calls Tryz.prog 32 #[v, .func (.func 33) #[] #[.pointer (some ⟨q, 0, none⟩)]] w fun e w' => e = .returned (.bool (!allMay K S l)) ∧ Old w w' := by
  have HC := hide (index_may q g K S v l w hq hg hl hK hS)
  have he : (!allMay K S l) = l.any fun x => !entMay K S x := by
    unfold allMay
    rw [List.not_all_eq_any_not]
  rw [he]
  clear hq hg hl he
  go_enter Tryz.func32, Tryz.ntmps32
  go_wp2_with fail
  refine HC.out.mono ?_
  rintro e w1 ⟨⟨i, rfl, hi⟩, h1⟩
  have HI := hide hi
  clear hi
  go_wp2_with fail
  go_ret
  exact ⟨by rw [← HI.out]; rfl, h1⟩

/-! ### is something left of a group? -/
set_option maxRecDepth 100000 in
theorem rest_run (n : Int) (w : World) : Calls Tryz.prog 39 #[.int .i64 n] w fun e w' => e = .returned (.bool (restB n)) ∧ w = w' := by
  go_enter Tryz.func39, Tryz.ntmps39
  go_wp2_with fail
  go_ret
  exact ⟨rfl, rfl⟩
set_option maxRecDepth 100000 in
set_option maxHeartbeats 400000 in
theorem index_rest (v : Value) (l : List Int) (w : World) (hl : Sl w v l.length (numVals l)) :
    Calls Tryz.prog 67 #[v, .func (.func 39) #[] #[]] w fun e w' => (∃ i : Int, e = .returned (.int .i64 i) ∧ decide (0 ≤ i) = l.any restB) ∧ Old w w' := by
  obtain ⟨A, ca, rfl, hla, hma, ha⟩ := hl
  unfold maxLen at hma
  have HA := hide ha
  clear ha
  go_enter Tryz.func67, Tryz.ntmps67
  go_wp2_with fail
  go_loopw [8] (fun i wr => ∃ k : Nat, i = .int .i64 k ∧ k ≤ l.length ∧ Hid (∀ j : Nat, j < k → (hj' : j < l.length) → restB l[j] = false) ∧ Old w wr) (fun i _ => l.length - (intOf i).toNat)
  case atStart => exact ⟨0, rfl, by omega, hide (by intro j hj; omega), Old.refl _⟩
  case round =>
    obtain ⟨k, rfl, hk, HN, hbl⟩ := hrel
    by_cases hlt : k < l.length
    · have g0 := numVals_get hlt
      obtain ⟨b1, o1, rfl, hc1⟩ := HA.out (by intro e; rw [e] at g0; simp at g0)
      have y0 := hbl.cell (hc1 _ _ g0)
      clear hc1 g0
      have HC := hide (rest_run l[k] wr)
      go_wp2_with fail
      refine HC.out.mono ?_
      rintro e w1 ⟨rfl, rfl⟩
      clear y0
      cases hs : restB l[k]
      · have HS := hide hs
        clear hs
        go_wp2_with fail
        go_roundw
        case rel => exact ⟨k + 1, by go_num, by omega, hide (fun j hj hj' => by
          rcases Nat.lt_or_ge j k with h | h
          · exact HN.out j h hj'
          · have : j = k := by omega
            subst this
            exact HS.out), hbl⟩
        case measure => simp [intOf]; omega
      · have HS := hide hs
        clear hs
        go_wp2_with fail
        go_ret
        refine ⟨⟨(k : Int), rfl, ?_⟩, hbl⟩
        rw [any_at (k := k) hlt HS.out]
        simp
    · go_wp2_with fail
      go_ret
      refine ⟨⟨-1, rfl, ?_⟩, hbl⟩
      rw [any_none fun j hj => HN.out j (by omega) hj]
      rfl
set_option maxRecDepth 100000 in
theorem contains_rest (v : Value) (l : List Int) (w : World) (hl : Sl w v l.length (numVals l)) :
    Calls Tryz.prog 38 #[v, .func (.func 39) #[] #[]] w fun e w' => e = .returned (.bool (l.any restB)) ∧ Old w w' := by
  have HC := hide (index_rest v l w hl)
  clear hl
  go_enter Tryz.func38, Tryz.ntmps38
  go_wp2_with fail
  refine HC.out.mono ?_
  rintro e w1 ⟨⟨i, rfl, hi⟩, h1⟩
  have HI := hide hi
  clear hi
  go_wp2_with fail
  go_ret
  exact ⟨by rw [← HI.out]; rfl, h1⟩
end Go.Proofs.YtmfbblcipakaiaaGreatDoor
