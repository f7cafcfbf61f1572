/- The reader of a text: its block; fail, now, blanks, word, digits. -/
import Derived.Test.YthlfljmfggmfdaaGreatDoorQm12
import Derived.Test.YthlfljmfggmfdaaGreatDoorQm35
import Derived.Lib.SlBytesConst
import Derived.Deep.RegionHeld
/-! ### The reader of a text: its block; fail, now, blanks, word, digits. -/
/-! ### The reader of a text: its block; fail, now, blanks, word, digits. -/
namespace Go.Proofs.YthlfljmfggmfdaaGreatDoor
open Go.RowKit

abbrev jrCells (s : ByteArray) (n : Nat) (ov hv : Value) (key : ByteArray) (e bad : Int) : Array Value := #[.string s, .int .i64 (n : Int), ov, hv, .string key, .int .i64 e, .int .i64 bad]
/-- a reader, in memory: where it is, the nodes so far, what is open, the key that is kept, the error and its place -/
structure JR (base rb : Nat) (s : ByteArray) (n : Nat) (out : List Nd) (H : List Jh) (key : ByteArray) (e bad : Int) (w : World) : Prop where
  low : base ≤ rb
  mem : ∃ ov hv, w.heap[rb]? = some (.cells (jrCells s n ov hv key e bad) 100 (0, 0)) ∧ NodesOwn base w ov out ∧ JOpen base w hv H
theorem set_heap {w : World} {rb i : Nat} {cs : Array Value} {T : TypeId} {f : Nat × Nat} (h : w.heap[rb]? = some (.cells cs T f)) (v : Value) : (w.setCell ⟨rb, i, none⟩ v).heap[rb]? = some (.cells (cs.setIfInBounds i v) T f) := by
  simp [World.setCell, Array.getElem?_modify, h]
theorem own_set_else {base T size n rb i : Nat} {w : World} {v u : Value} {xs : List Value} {cs : Array Value} {T' : TypeId} {f : Nat × Nat} (h : w.ownsRow base T size v n xs) (hb : w.heap[rb]? = some (.cells cs T' f)) (hne : T ≠ T') : (w.setCell ⟨rb, i, none⟩ u).ownsRow base T size v n xs := by
  obtain ⟨hl, h2⟩ := h
  refine ⟨hl, ?_⟩
  rcases h2 with h2 | ⟨g, cap, cur, rfl, hg, hh, r⟩
  · exact .inl h2
  · refine .inr ⟨g, cap, cur, rfl, hg, ?_, r⟩
    have hgr : g ≠ rb := by
      rintro rfl
      rw [hb] at hh
      injection hh with hh
      injection hh with _ hT _
      exact hne hT.symm
    rw [((One.refl rb w).set i u).block g (block_lt hh) hgr]
    exact hh
theorem keys_set_else {b rb i : Nat} {w : World} {u : Value} {had : List ByteArray} {cs : Array Value} {T' : TypeId} {f : Nat × Nat} (h : Keys w b had) (hb : w.heap[rb]? = some (.cells cs T' f)) : Keys (w.setCell ⟨rb, i, none⟩ u) b had := by
  refine h.same (((One.refl rb w).set i u).block b h.lt ?_)
  rintro rfl
  obtain ⟨D, ⟨es, clock, h2, _⟩, _⟩ := h
  rw [hb] at h2
  cases h2
theorem JOpen.set_else {base rb i : Nat} {w : World} {v u : Value} {S : List Jh} {cs : Array Value} {T' : TypeId} {f : Nat × Nat} (h : JOpen base w v S) (hb : w.heap[rb]? = some (.cells cs T' f)) (hne : 139 ≠ T') : JOpen base (w.setCell ⟨rb, i, none⟩ u) v S := by
  obtain ⟨ms, h1, h2, h3, h4⟩ := h
  refine ⟨ms, h1, own_set_else h2 hb hne, fun i hi hi' => ?_, h4⟩
  obtain ⟨b, e, r1, r2⟩ := h3 i hi hi'
  exact ⟨b, e, r1, keys_set_else r2 hb⟩
section
variable {base rb n : Nat} {s key : ByteArray} {out : List Nd} {H : List Jh} {e bad : Int} {w w' : World}
theorem JR.old (h : JR base rb s n out H key e bad w) (o : Old w w') : JR base rb s n out H key e bad w' := by
  obtain ⟨h1, ov, hv, h2, h3, h4⟩ := h
  exact ⟨h1, ov, hv, o.heap h2, own_old h3 o, h4.old o⟩
/-- its cells -/
theorem JR.cells (h : JR base rb s n out H key e bad w) : ∃ ov hv, (w.cell? ⟨rb, 0, none⟩ = some (.string s) ∧ w.cell? ⟨rb, 1, none⟩ = some (.int .i64 (n : Int)) ∧ w.cell? ⟨rb, 2, none⟩ = some ov ∧ w.cell? ⟨rb, 3, none⟩ = some hv ∧ w.cell? ⟨rb, 4, none⟩ = some (.string key) ∧ w.cell? ⟨rb, 5, none⟩ = some (.int .i64 e) ∧ w.cell? ⟨rb, 6, none⟩ = some (.int .i64 bad)) ∧
    (∀ i, w.frozen? ⟨rb, i, none⟩ = false) ∧ NodesOwn base w ov out ∧ JOpen base w hv H := by
  obtain ⟨h1, ov, hv, h2, h3, h4⟩ := h
  exact ⟨ov, hv, ⟨(cell_of_heap h2).trans rfl, (cell_of_heap h2).trans rfl, (cell_of_heap h2).trans rfl, (cell_of_heap h2).trans rfl, (cell_of_heap h2).trans rfl, (cell_of_heap h2).trans rfl, (cell_of_heap h2).trans rfl⟩, fun i => free_of_heap h2, h3, h4⟩
theorem JR.lt (h : JR base rb s n out H key e bad w) : rb < w.heap.size := by
  obtain ⟨h1, ov, hv, h2, h3, h4⟩ := h
  exact block_lt h2
theorem JR.setAt (h : JR base rb s n out H key e bad w) (m : Nat) {z : Int} (hz : z = m) : JR base rb s m out H key e bad (w.setCell ⟨rb, 1, none⟩ (.int .i64 z)) := by
  subst hz
  obtain ⟨h1, ov, hv, h2, h3, h4⟩ := h
  exact ⟨h1, ov, hv, set_heap h2 _, own_set_else h3 h2 (by decide), h4.set_else h2 (by decide)⟩
theorem JR.setKey (h : JR base rb s n out H key e bad w) (k : ByteArray) : JR base rb s n out H k e bad (w.setCell ⟨rb, 4, none⟩ (.string k)) := by
  obtain ⟨h1, ov, hv, h2, h3, h4⟩ := h
  exact ⟨h1, ov, hv, set_heap h2 _, own_set_else h3 h2 (by decide), h4.set_else h2 (by decide)⟩
theorem JR.setE (h : JR base rb s n out H key e bad w) (k : Int) : JR base rb s n out H key k bad (w.setCell ⟨rb, 5, none⟩ (.int .i64 k)) := by
  obtain ⟨h1, ov, hv, h2, h3, h4⟩ := h
  exact ⟨h1, ov, hv, set_heap h2 _, own_set_else h3 h2 (by decide), h4.set_else h2 (by decide)⟩
theorem JR.setBad (h : JR base rb s n out H key e bad w) (k : Int) : JR base rb s n out H key e k (w.setCell ⟨rb, 6, none⟩ (.int .i64 k)) := by
  obtain ⟨h1, ov, hv, h2, h3, h4⟩ := h
  exact ⟨h1, ov, hv, set_heap h2 _, own_set_else h3 h2 (by decide), h4.set_else h2 (by decide)⟩
theorem JR.setOpen (h : JR base rb s n out H key e bad w) {v : Value} {H' : List Jh} (hv : JOpen base w v H') : JR base rb s n out H' key e bad (w.setCell ⟨rb, 3, none⟩ v) := by
  obtain ⟨h1, ov, hv0, h2, h3, h4⟩ := h
  exact ⟨h1, ov, v, set_heap h2 _, own_set_else h3 h2 (by decide), hv.set_else h2 (by decide)⟩
theorem JR.keepAt (h : JR base rb s n out H key e bad w) (i : Nat) (v : Value) : RowKit.Below base w (w.setCell ⟨rb, i, none⟩ v) := (Below.refl _ _).setCell h.low _
end
/-- what is elder than the reader stands, and so does the row of its nodes -/
structure Bel (base rb : Nat) (w w' : World) : Prop where
  low : RowKit.Below base w w'
  one : One rb w w'
  row : ∀ v, w.cell? ⟨rb, 2, none⟩ = some v → w'.cell? ⟨rb, 2, none⟩ = some v
theorem Bel.refl (base rb : Nat) (w : World) : Bel base rb w w := ⟨Below.refl _ _, One.refl _ _, fun _ h => h⟩
theorem Bel.trans {base rb : Nat} {a b c : World} (h : Bel base rb a b) (k : Bel base rb b c) : Bel base rb a c := ⟨h.low.trans k.low, h.one.trans k.one, fun v hv => k.row v (h.row v hv)⟩
theorem Bel.ofOld {base rb : Nat} {a b : World} (o : Old a b) (h : base ≤ a.heap.size) : Bel base rb a b := ⟨RowKit.Below.mono o h, (One.refl _ _).old o, fun _ hv => o.cell hv⟩
theorem Bel.size {base rb : Nat} {a b : World} (h : Bel base rb a b) : a.heap.size ≤ b.heap.size := h.low.size
theorem set_cell2 {w : World} {rb i : Nat} {u v : Value} (hi : i ≠ 2) (h : w.cell? ⟨rb, 2, none⟩ = some v) : (w.setCell ⟨rb, i, none⟩ u).cell? ⟨rb, 2, none⟩ = some v :=
  (World.cell?_setCell_other w _ _ _ (fun e => hi (by injection e))).trans h
theorem JR.keepB {base rb n : Nat} {s key : ByteArray} {out : List Nd} {H : List Jh} {e bad : Int} {w : World} (h : JR base rb s n out H key e bad w) (i : Nat) (v : Value) (hi : i ≠ 2) : Bel base rb w (w.setCell ⟨rb, i, none⟩ v) := ⟨h.keepAt i v, (One.refl _ _).set i v, fun _ hv => set_cell2 hi hv⟩
set_option maxRecDepth 100000 in
theorem jfail_runB (base rb : Nat) (s : ByteArray) (n : Nat) (out : List Nd) (H : List Jh) (key : ByteArray) (e bad : Int) (w : World) (h : JR base rb s n out H key e bad w) (at_ c : Int) :
    Calls Tryz.prog 65 #[.pointer (some ⟨rb, 0, none⟩), .int .i64 at_, .int .i64 c] w fun x w' => x = .returned (.bool false) ∧ JR base rb s n out H key c at_ w' ∧ Bel base rb w w' := by
  have H1 := hide ((h.setBad at_).setE c)
  have BB := hide ((h.keepB 6 (.int .i64 at_) (by decide)).trans ((h.setBad at_).keepB 5 (.int .i64 c) (by decide)))
  obtain ⟨ov, hv, ⟨x0, x1, x2, x3, x4, x5, x6⟩, hf, _, _⟩ := h.cells
  have f5 := hf 5
  have f6 := hf 6
  clear h hf x0 x1 x2 x3 x4
  go_enter Tryz.func65, Tryz.ntmps65
  go_wp2_with fail
  go_ret
  exact ⟨rfl, H1.out, BB.out⟩
theorem jfail_run (base rb : Nat) (s : ByteArray) (n : Nat) (out : List Nd) (H : List Jh) (key : ByteArray) (e bad : Int) (w : World) (h : JR base rb s n out H key e bad w) (at_ c : Int) :
    Calls Tryz.prog 65 #[.pointer (some ⟨rb, 0, none⟩), .int .i64 at_, .int .i64 c] w fun x w' => x = .returned (.bool false) ∧ JR base rb s n out H key c at_ w' ∧ RowKit.Below base w w' :=
  (jfail_runB base rb s n out H key e bad w h at_ c).mono fun _ _ k => ⟨k.1, k.2.1, k.2.2.low⟩
/-- bytes, as a slice's cells -/
def byV (l : List UInt8) : List Value := l.map fun b => .int .u8 (b.toNat : Int)
theorem byV_len (l : List UInt8) : (byV l).length = l.length := by simp [byV]
set_option maxRecDepth 100000 in
theorem index_run (v : Value) (xs : List UInt8) (c : UInt8) (w : World) (h : Sl w v xs.length (byV xs)) (hl : xs.length ≤ 1000) :
    Calls Tryz.prog 124 #[v, .int .u8 (c.toNat : Int)] w fun e w' => (∃ k : Int, e = .returned (.int .i64 k) ∧ (0 ≤ k ↔ c ∈ xs)) ∧ w = w' := by
  obtain ⟨A, cap, rfl, h1, h2, h3⟩ := h
  unfold maxLen at h2
  obtain ⟨n, hn⟩ : ∃ n, Hid (xs.length = n) := ⟨_, hide rfl⟩
  rw [hn.out] at h1 hl ⊢
  have H3 := hide h3
  clear h3
  go_enter Tryz.func124, Tryz.ntmps124
  go_wp2_with fail
  go_loop [8] (fun i => ∃ k : Nat, i = .int .i64 k ∧ k ≤ n ∧ Hid (c ∉ xs.take k)) (fun i => n - (intOf i).toNat)
  case atStart => exact ⟨0, rfl, by omega, hide (by simp)⟩
  case round =>
    obtain ⟨k, rfl, hk, HN⟩ := hrel
    by_cases hlt : k < n
    · have hkl : k < xs.length := by rw [hn.out]; exact hlt
      obtain ⟨b, off, rfl, hc⟩ := H3.out (by intro e; have := congrArg List.length e; rw [byV_len] at this; simp at this; subst this; simp at hkl)
      have hcell : w.cell? ⟨b, off + k, none⟩ = some (.int .u8 (xs[k].toNat : Int)) := hc k _ (by simp [byV, hkl])
      obtain ⟨x, hx⟩ : ∃ x, Hid (xs[k] = x) := ⟨_, hide rfl⟩
      rw [hx.out] at hcell
      have HT := hide (show xs.take (k + 1) = xs.take k ++ [x] by rw [List.take_succ_eq_append_getElem hkl, hx.out])
      have HM := hide (show x ∈ xs by rw [← hx.out]; exact List.getElem_mem hkl)
      clear hc
      by_cases hxc : c = x
      · have hq : ((c.toNat : Int) == (x.toNat : Int)) = true := by rw [hxc]; simp
        have FIN := hide (show (0 : Int) ≤ (k : Int) ↔ c ∈ xs from ⟨fun _ => by rw [hxc]; exact HM.out, fun _ => by omega⟩)
        clear hxc
        go_wp2_with fail
        go_ret
        exact ⟨⟨_, rfl, FIN.out⟩, rfl⟩
      · have hq : ((c.toNat : Int) == (x.toNat : Int)) = false := by
          have : c.toNat ≠ x.toNat := fun e => hxc (UInt8.toNat_inj.1 e)
          simp; omega
        have HN2 := hide (show c ∉ xs.take (k + 1) by
          rw [HT.out, List.mem_append, List.mem_singleton]
          rintro (h | h)
          · exact HN.out h
          · exact hxc h)
        clear hxc
        go_wp2_with fail
        go_round
        case rel => exact ⟨k + 1, by go_num, by omega, HN2⟩
        case measure => simp [intOf]; omega
    · have FIN := hide (show (0 : Int) ≤ -1 ↔ c ∈ xs from ⟨fun h => by omega, fun h => by
        have := HN.out
        rw [List.take_of_length_le (by rw [hn.out]; omega)] at this
        exact absurd h this⟩)
      go_wp2_with fail
      go_ret
      exact ⟨⟨_, rfl, FIN.out⟩, rfl⟩
theorem contains_run (v : Value) (xs : List UInt8) (c : UInt8) (B : Bool) (w : World) (h : Sl w v xs.length (byV xs)) (hl : xs.length ≤ 1000) (hB : decide (c ∈ xs) = B) :
    Calls Tryz.prog 101 #[v, .int .u8 (c.toNat : Int)] w fun e w' => e = .returned (.bool B) ∧ w = w' := by
  have CI := hide (index_run v xs c w h hl)
  obtain ⟨A, cap, rfl, _, _, _⟩ := h
  clear hl
  go_enter Tryz.func101, Tryz.ntmps101
  go_wp2_with fail
  refine CI.out.mono ?_
  rintro e w' ⟨⟨k, rfl, hk⟩, rfl⟩
  have HK := hide (show decide (0 ≤ k) = B by rw [← hB]; exact decide_eq_decide.2 hk)
  clear hk hB
  go_wp2_with fail
  go_ret
  exact ⟨ret_bool HK.out, rfl⟩
/-- does one of these bytes stand next? -/
def nowB (xs : List UInt8) (l : List UInt8) : Bool :=
  match l with
  | [] => false
  | c :: _ => decide (c ∈ xs)
/-- where a reader is -/
structure JAt (s : ByteArray) (n : Nat) (l : List UInt8) : Prop where
  len : n + l.length = s.size
  rest : s.data.toList.drop n = l
theorem JAt.next {s : ByteArray} {n : Nat} {c : UInt8} {r : List UInt8} (h : JAt s n (c :: r)) : JAt s (n + 1) r :=
  ⟨by have := h.len; simp only [List.length_cons] at this; omega, (byte_at h.rest).2.2⟩
theorem JAt.le {s : ByteArray} {n : Nat} {l : List UInt8} (h : JAt s n l) : n ≤ s.size := by have := h.len; omega
set_option maxRecDepth 100000 in
set_option maxHeartbeats 1000000 in
theorem now_run (base rb : Nat) (s : ByteArray) (n : Nat) (l : List UInt8) (out : List Nd) (H : List Jh) (key : ByteArray) (e bad : Int) (w : World) (h : JR base rb s n out H key e bad w) (ha : JAt s n l)
    (v : Value) (xs : List UInt8) (hv : Sl w v xs.length (byV xs)) (hl : xs.length ≤ 1000) (B : Bool) (hB : nowB xs l = B) :
    Calls Tryz.prog 60 #[.pointer (some ⟨rb, 0, none⟩), v] w fun x w' => x = .returned (.bool B) ∧ Old w w' := by
  obtain ⟨ov, hv2, ⟨x0, x1, _, _, _, _, _⟩, hf, _, _⟩ := h.cells
  obtain ⟨hn, hd⟩ := ha
  obtain ⟨A, cap, rfl, _, _, _⟩ := id hv
  have HV := hide hv
  clear h hv
  cases l with
  | nil =>
    simp only [List.length_nil, Nat.add_zero] at hn
    have hq : ¬ (n : Int) < (s.size : Int) := by omega
    have hqd : decide ((n : Int) < (s.size : Int)) = false := decide_eq_false hq
    have hqn : decide (n < s.size) = false := decide_eq_false (by omega)
    have EB := hide (show false = B from hB)
    clear hn hd hB
    go_enter Tryz.func60, Tryz.ntmps60
    go_wp2_with fail
    go_quiet (fail)
    go_wp2_with fail
    go_ret
    exact ⟨ret_bool EB.out, Old.drewN (Old.refl _) _⟩
  | cons c r =>
    obtain ⟨b1, b2, b3⟩ := byte_at hd
    have bx : s[n] = c := by rw [get_at s b1, b2]
    have hq : (n : Int) < (s.size : Int) := by omega
    have hqd : decide ((n : Int) < (s.size : Int)) = true := decide_eq_true hq
    have hqn : decide (n < s.size) = true := decide_eq_true (by omega)
    have CC := hide (fun m => (contains_run (.slice A xs.length cap) xs c B (w.drewN m) (HV.out.old (Old.drewN (Old.refl _) m)) hl hB).mono fun e w' (h : e = .returned (.bool B) ∧ w.drewN m = w') => (show e = .returned (.bool B) ∧ w' = w.drewN m from ⟨h.1, h.2.symm⟩))
    clear hn hd b2 b3 hB
    go_enter Tryz.func60, Tryz.ntmps60
    go_wp2_with fail
    go_quiet ((go_at_call 101; exact Calls.quiet_of_same (CC.out _)))
    go_wp2_with fail
    go_ret
    exact ⟨rfl, Old.drewN (Old.refl _) _⟩
end Go.Proofs.YthlfljmfggmfdaaGreatDoor

/-! ### The reader of a text: blanks, word, digits. -/
namespace Go.Proofs.YthlfljmfggmfdaaGreatDoor
open Go.RowKit

theorem sl_bytes (w : World) (xs : List UInt8) (g : Nat) (hg : w.heap.size = g) (hl : xs.length ≤ 1000) : Sl (w.alloc (.cells (byV xs).toArray 5)) (.slice (some ⟨g, 0, none⟩) xs.length xs.length) xs.length (byV xs) := by
  refine ⟨_, _, rfl, Nat.le_refl _, by unfold maxLen; omega, fun _ => ⟨g, 0, rfl, fun j u hu => ?_⟩⟩
  rw [Nat.zero_add, cell_of_heap (heap_new _ _ _ hg)]
  simpa using hu
/-- the blanks, as a constant's bytes -/
abbrev blW (w : World) : World := w.alloc (.cells #[.int .u8 32, .int .u8 9, .int .u8 10, .int .u8 13] 5 (4, 5))
theorem sl_blanks (w : World) : Sl (blW w).drew (.slice (some ⟨w.heap.size, 0, none⟩) 4 4) 4 (byV [32, 9, 10, 13]) := by
  have hh : (blW w).heap[w.heap.size]? = some (.cells #[.int .u8 32, .int .u8 9, .int .u8 10, .int .u8 13] 5 (4, 5)) := heap_alloc_new w _
  have h : Sl (blW w) (.slice (some ⟨w.heap.size, 0, none⟩) 4 4) 4 (byV [32, 9, 10, 13]) := by
    refine ⟨_, _, rfl, Nat.le_refl _, by unfold maxLen; omega, fun _ => ⟨w.heap.size, 0, rfl, fun j u hu => ?_⟩⟩
    rw [Nat.zero_add, cell_of_heap hh]
    match j, hu with
    | 0, hu => simpa [byV] using hu
    | 1, hu => simpa [byV] using hu
    | 2, hu => simpa [byV] using hu
    | 3, hu => simpa [byV] using hu
    | j + 4, hu => simp [byV] at hu
  exact h.old (Old.refl _).drew
theorem conv_blanks (w : World) : (convert 57 57 (.slice (some ⟨w.heap.size, 0, none⟩) 4 4)).run Tryz.prog (w.alloc (.cells #[.int .u8 32, .int .u8 9, .int .u8 10, .int .u8 13] 5)).drew = .ok (.slice (some ⟨w.heap.size, 0, none⟩) 4 4) (blW w).drew :=
  Lib.run_convert_bytes_const (P := Tryz.prog) w.drew 57 5 #[.int .u8 32, .int .u8 9, .int .u8 10, .int .u8 13] 4 4 Tryz.underlying57 Tryz.underlying5
/-- how far a reader has to go -/
def jLeft (rb : Nat) (s : ByteArray) (w : World) : Nat :=
  match w.cell? ⟨rb, 1, none⟩ with
  | some (.int _ k) => s.size + 1 - k.toNat
  | _ => 0
section
variable {base rb n : Nat} {s key : ByteArray} {out : List Nd} {H : List Jh} {e bad : Int} {w w' : World}
theorem JR.left (h : JR base rb s n out H key e bad w) : jLeft rb s w = s.size + 1 - n := by
  obtain ⟨ov, hv, ⟨x0, x1, _, _, _, _, _⟩, _⟩ := h.cells
  unfold jLeft
  rw [x1]
  simp
theorem skip_head {c : UInt8} {r : List UInt8} : skipB (c :: r) = if isBlank c then skipB r else c :: r := by simp [skipB]
theorem blank_mem (c : UInt8) : decide (c ∈ ([32, 9, 10, 13] : List UInt8)) = isBlank c := by
  unfold isBlank
  simp only [List.mem_cons, List.not_mem_nil, or_false]
  by_cases h1 : c = 32
  · subst h1; decide
  by_cases h2 : c = 9
  · subst h2; decide
  by_cases h3 : c = 10
  · subst h3; decide
  by_cases h4 : c = 13
  · subst h4; decide
  simp [h1, h2, h3, h4]
end
set_option maxRecDepth 100000 in
set_option maxHeartbeats 1000000 in
theorem blanks_run (base rb : Nat) (s : ByteArray) (n : Nat) (l : List UInt8) (out : List Nd) (H : List Jh) (key : ByteArray) (e bad : Int) (w : World) (h : JR base rb s n out H key e bad w) (ha : JAt s n l) (hs : s.size ≤ 1073741824) :
    Calls Tryz.prog 59 #[.pointer (some ⟨rb, 0, none⟩)] w fun x w' => x = .returned (.tuple #[]) ∧ (∃ m, JAt s m (skipB l) ∧ JR base rb s m out H key e bad w') ∧ RowKit.Below base w w' := by
  have HJ := hide h
  have HA := hide ha
  obtain ⟨L, hL⟩ : ∃ L, Hid (skipB l = L) := ⟨_, hide rfl⟩
  rw [hL.out]
  have hbw := hide (show base ≤ w.heap.size from Nat.le_trans h.low (Nat.le_of_lt h.lt))
  clear h ha
  go_enter Tryz.func59, Tryz.ntmps59
  go_wp2_with fail
  go_loopw [] (fun wr => ∃ (k : Nat) (q : List UInt8), Hid (JR base rb s k out H key e bad wr) ∧ Hid (JAt s k q) ∧ Hid (skipB q = L) ∧ Hid (RowKit.Below base w wr)) (fun wr => jLeft rb s wr)
  case atStart => exact ⟨n, l, HJ, HA, hL, hide (Below.refl _ _)⟩
  case round =>
    obtain ⟨k, q, HR, HQ, HS, HB⟩ := hrel
    obtain ⟨ov, hv, ⟨x0, x1, _, _, _, _, _⟩, hf, _, _⟩ := HR.out.cells
    have f1 := hf 1
    have hle := HQ.out.le
    have LF := hide HR.out.left
    clear hf
    cases q with
    | nil =>
      have hk : k = s.size := by have := HQ.out.len; simpa using this
      have hq : ¬ (k : Int) < (s.size : Int) := by omega
      have hqn : decide (k < s.size) = false := decide_eq_false (by omega)
      have FIN := hide (show ∃ m, JAt s m L ∧ JR base rb s m out H key e bad wr from ⟨k, by rw [← HS.out]; exact HQ.out, HR.out⟩)
      clear hk
      have y0 : ∀ p : Later wr, p.world.cell? ⟨rb, 0, none⟩ = some (.string s) := fun p => p.old.cell x0
      have y1 : ∀ p : Later wr, p.world.cell? ⟨rb, 1, none⟩ = some (.int .i64 (k : Int)) := fun p => p.old.cell x1
      go_wp2_with fail
      refine region_later (by kernel_rfl) (by kernel_rfl) ?_
      repeat (go_big_quiet_step (fail))
      refine wpQuiet_nil ?_
      rintro w2 ⟨⟨_, o2⟩, rfl⟩
      have O2 := hide (show RowKit.Below base w w2 from HB.out.trans (RowKit.Below.mono o2 (Nat.le_trans hbw.out HB.out.size)))
      obtain ⟨m, fm1, fm2⟩ := FIN.out
      have FF := hide (show ∃ m, JAt s m L ∧ JR base rb s m out H key e bad w2 from ⟨m, fm1, fm2.old o2⟩)
      clear o2 fm1 fm2 y0 y1
      go_wp2_with fail
      go_end0
      exact ⟨rfl, FF.out, O2.out⟩
    | cons c r =>
      obtain ⟨b1, b2, b3⟩ := byte_at HQ.out.rest
      have bx : s[k] = c := by rw [get_at s b1, b2]
      have hq : (k : Int) < (s.size : Int) := by omega
      have hqn : decide (k < s.size) = true := decide_eq_true b1
      have HN := hide HQ.out.next
      obtain ⟨B, hB⟩ : ∃ B, Hid (isBlank c = B) := ⟨_, hide rfl⟩
      have CC := hide (fun (w' : World) => contains_run (.slice (some ⟨w'.heap.size, 0, none⟩) 4 4) [32, 9, 10, 13] c B (blW w').drew (sl_blanks w') (by decide) (by rw [blank_mem]; exact hB.out))
      have y0 : ∀ w', Old wr w' → w'.cell? ⟨rb, 0, none⟩ = some (.string s) := fun w' o => o.cell x0
      have y1 : ∀ w', Old wr w' → w'.cell? ⟨rb, 1, none⟩ = some (.int .i64 (k : Int)) := fun w' o => o.cell x1
      have kc := conv_blanks wr
      clear b2 b3
      go_wp2_with fail
      go_region_held (fun w' => Old wr w')
        (first | assumption | (exact Old.drew (Old.refl _)) | (exact Old.alloc (Old.refl _) _) | (exact Old.drew (Old.alloc (Old.refl _) _)) | (exact Old.drew (Old.drew (Old.alloc (Old.refl _) _))))
        (first | (go_at_call 101; (with_reducible refine (CC.out _).mono ?_); rintro e w30 ⟨rfl, rfl⟩))
      all_goals
        have OB := hide (show Old wr (blW wr).drew from Old.drew (Old.alloc (Old.refl _) _))
        have JB := hide (HR.out.old OB.out)
        have BB := hide (HB.out.trans (RowKit.Below.mono OB.out (Nat.le_trans hbw.out HB.out.size)))
        clear CC y0 y1 kc
        cases B
        · have FIN := hide (show ∃ m, JAt s m L ∧ JR base rb s m out H key e bad (blW wr).drew from ⟨k, by rw [← HS.out, skip_head, hB.out]; exact HQ.out, JB.out⟩)
          go_wp2_with fail
          go_end0
          exact ⟨rfl, FIN.out, BB.out⟩
        · have J2 := hide (JB.out.setAt (k + 1) (z := (k : Int) + 1) (by simp))
          have B2 := hide (BB.out.trans (JB.out.keepAt 1 (.int .i64 ((k : Int) + 1))))
          have S2 := hide (show skipB r = L by rw [← HS.out, skip_head, hB.out]; rfl)
          obtain ⟨ov2, hv2, ⟨z0, z1, _, _, _, _, _⟩, zf, _, _⟩ := JB.out.cells
          have z2 := zf 1
          have ML := hide (show jLeft rb s ((blW wr).drew.setCell ⟨rb, 1, none⟩ (.int .i64 ((k : Int) + 1))) < jLeft rb s wr by rw [J2.out.left, LF.out]; omega)
          clear zf
          go_wp2_with fail
          go_roundw
          case rel => exact ⟨k + 1, r, J2, HN, S2, B2⟩
          case measure => exact ML.out
end Go.Proofs.YthlfljmfggmfdaaGreatDoor
