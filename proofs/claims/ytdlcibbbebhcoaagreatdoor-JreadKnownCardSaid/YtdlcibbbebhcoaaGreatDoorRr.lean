/- The document's reader of a text: its block; is, fail, must, blanks, word, digits. -/
import Derived.Test.YtdlcibbbebhcoaaGreatDoorJr
import Derived.Test.YtdlcibbbebhcoaaGreatDoorSufL
import Derived.Test.YtdlcibbbebhcoaaGreatDoorChk
/-! ### The document's reader of a text: its block; is, fail, must, blanks, word, digits. -/
namespace Go.Proofs.YtdlcibbbebhcoaaGreatDoor
open Go.RowKit

abbrev rrCells (s : ByteArray) (n : Nat) (ov : Value) (wh e : Int) : Array Value := #[.string s, .int .i64 (n : Int), ov, .int .i64 wh, .int .i64 e]
/-- the document's reader, in memory -/
structure RR (base rb : Nat) (s : ByteArray) (n : Nat) (out : List Nd) (wh e : Int) (w : World) : Prop where
  low : base ≤ rb
  mem : ∃ ov, w.heap[rb]? = some (.cells (rrCells s n ov wh e) 61 (0, 0)) ∧ NodesOwn base w ov out
section
variable {base rb n : Nat} {s : ByteArray} {out : List Nd} {wh e : Int} {w w' : World}
theorem RR.old (h : RR base rb s n out wh e w) (o : Old w w') : RR base rb s n out wh e w' := by
  obtain ⟨h1, ov, h2, h3⟩ := h
  exact ⟨h1, ov, o.heap h2, own_old h3 o⟩
theorem RR.cells (h : RR base rb s n out wh e w) : ∃ ov, (w.cell? ⟨rb, 0, none⟩ = some (.string s) ∧ w.cell? ⟨rb, 1, none⟩ = some (.int .i64 (n : Int)) ∧ w.cell? ⟨rb, 2, none⟩ = some ov ∧ w.cell? ⟨rb, 3, none⟩ = some (.int .i64 wh) ∧ w.cell? ⟨rb, 4, none⟩ = some (.int .i64 e)) ∧
    (∀ i, w.frozen? ⟨rb, i, none⟩ = false) ∧ NodesOwn base w ov out := by
  obtain ⟨h1, ov, h2, h3⟩ := h
  exact ⟨ov, ⟨(cell_of_heap h2).trans rfl, (cell_of_heap h2).trans rfl, (cell_of_heap h2).trans rfl, (cell_of_heap h2).trans rfl, (cell_of_heap h2).trans rfl⟩, fun i => free_of_heap h2, h3⟩
theorem RR.lt (h : RR base rb s n out wh e w) : rb < w.heap.size := by
  obtain ⟨h1, ov, h2, h3⟩ := h
  exact block_lt h2
theorem RR.bw (h : RR base rb s n out wh e w) : base ≤ w.heap.size := Nat.le_trans h.low (Nat.le_of_lt h.lt)
theorem RR.setAt (h : RR base rb s n out wh e w) (m : Nat) {z : Int} (hz : z = m) : RR base rb s m out wh e (w.setCell ⟨rb, 1, none⟩ (.int .i64 z)) := by
  subst hz
  obtain ⟨h1, ov, h2, h3⟩ := h
  exact ⟨h1, ov, set_heap h2 _, own_set_else h3 h2 (by decide)⟩
theorem RR.setWh (h : RR base rb s n out wh e w) (k : Int) : RR base rb s n out k e (w.setCell ⟨rb, 3, none⟩ (.int .i64 k)) := by
  obtain ⟨h1, ov, h2, h3⟩ := h
  exact ⟨h1, ov, set_heap h2 _, own_set_else h3 h2 (by decide)⟩
theorem RR.setE (h : RR base rb s n out wh e w) (k : Int) : RR base rb s n out wh k (w.setCell ⟨rb, 4, none⟩ (.int .i64 k)) := by
  obtain ⟨h1, ov, h2, h3⟩ := h
  exact ⟨h1, ov, set_heap h2 _, own_set_else h3 h2 (by decide)⟩
theorem RR.setOut (h : RR base rb s n out wh e w) {v : Value} {out' : List Nd} (hv : NodesOwn base w v out') : RR base rb s n out' wh e (w.setCell ⟨rb, 2, none⟩ v) := by
  obtain ⟨h1, ov, h2, h3⟩ := h
  exact ⟨h1, v, set_heap h2 _, own_set_else hv h2 (by decide)⟩
theorem RR.keepB (h : RR base rb s n out wh e w) (i : Nat) (v : Value) (hi : i ≠ 2) : Bel base rb w (w.setCell ⟨rb, i, none⟩ v) := ⟨(Below.refl _ _).setCell h.low _, (One.refl _ _).set i v, fun _ hv => set_cell2 hi hv⟩
end
/-- where the reader is: what is left, or what is wrong and where -/
abbrev RX := Except Bad (List UInt8)
/-- the reader's state -/
def RS (base rb : Nat) (s : ByteArray) (out : List Nd) : RX → World → Prop
  | .ok l, w => ∃ n, JAt s n l ∧ RR base rb s n out 0 0 w
  | .error (p, e), w => e ≠ 0 ∧ p.length ≤ s.size ∧ ∃ n, RR base rb s n out ((s.size : Int) - (p.length : Int)) e w
def headIs (c : UInt8) : List UInt8 → Bool
  | [] => false
  | d :: _ => decide (d = c)
def isX (c : UInt8) : RX → Bool
  | .ok l => headIs c l
  | .error _ => false
def failX (p : List UInt8) (k : Int) : RX → RX
  | .ok _ => .error (p, k)
  | .error b => .error b
def restX : RX → List UInt8
  | .ok l => l
  | .error b => b.1
def mustX (c : UInt8) : RX → RX
  | .ok [] => .error ([], 70)
  | .ok (d :: r) => if d = c then .ok r else .error (d :: r, 70)
  | .error b => .error b
def blanksX : RX → RX
  | .ok l => .ok (skipB l)
  | .error b => .error b
def wordX (ds : List UInt8) (X : RX) : RX := ds.foldl (fun X c => mustX c X) X
section
variable {base rb : Nat} {s : ByteArray} {out : List Nd} {X : RX} {w w' : World}
theorem RS.old (h : RS base rb s out X w) (o : Old w w') : RS base rb s out X w' := by
  cases X with
  | ok l => obtain ⟨n, h1, h2⟩ := h; exact ⟨n, h1, h2.old o⟩
  | error b => obtain ⟨h0, h3, n, h2⟩ := h; exact ⟨h0, h3, n, h2.old o⟩
/-- where it is and its error, as numbers -/
theorem RS.open_ (h : RS base rb s out X w) : ∃ n wh e, RR base rb s n out wh e w ∧ (e = 0 ↔ ∃ l, X = .ok l) ∧ (∀ l, X = .ok l → JAt s n l ∧ wh = 0) := by
  cases X with
  | ok l =>
    obtain ⟨n, h1, h2⟩ := h
    exact ⟨n, 0, 0, h2, ⟨fun _ => ⟨l, rfl⟩, fun _ => rfl⟩, fun l' e => by injection e with e; subst e; exact ⟨h1, rfl⟩⟩
  | error b =>
    obtain ⟨h0, h3, n, h2⟩ := h
    refine ⟨n, _, _, h2, ⟨fun e => absurd e h0, fun ⟨l, e⟩ => ?_⟩, fun l e => ?_⟩
    · cases e
    · cases e
theorem RS.rest (h : RS base rb s out X w) : (restX X).length ≤ s.size := by
  cases X with
  | ok l => obtain ⟨n, h1, _⟩ := h; have := h1.len; simp only [restX]; omega
  | error b => exact h.2.1
theorem RS.lt (h : RS base rb s out X w) : rb < w.heap.size := by
  obtain ⟨n, wh, e, h, _⟩ := h.open_
  exact h.lt
theorem RS.bw (h : RS base rb s out X w) : base ≤ w.heap.size := by
  obtain ⟨n, wh, e, h, _⟩ := h.open_
  exact h.bw
end
set_option maxRecDepth 100000 in
set_option maxHeartbeats 1000000 in
theorem ris_run (base rb : Nat) (s : ByteArray) (out : List Nd) (X : RX) (w : World) (h : RS base rb s out X w) (c : UInt8) (B : Bool) (hB : isX c X = B) :
    Calls Tryz.prog 45 #[.pointer (some ⟨rb, 0, none⟩), .int .u8 (c.toNat : Int)] w fun x w' => x = .returned (.bool B) ∧ Old w w' := by
  cases X with
  | error b =>
    obtain ⟨p, e⟩ := b
    obtain ⟨he, _, n, h⟩ := h
    obtain ⟨ov, ⟨x0, x1, _, _, x4⟩, _, _⟩ := h.cells
    have hq : (e == 0) = false := by simp [he]
    have hq2 : ¬ e = 0 := he
    have EB := hide (show false = B from hB)
    clear h he hB
    go_enter Tryz.func45, Tryz.ntmps45
    go_wp2_with fail
    go_quiet (fail)
    go_wp2_with fail
    go_ret
    exact ⟨ret_bool EB.out, Old.drewN (Old.refl _) _⟩
  | ok l =>
    obtain ⟨n, ⟨hn, hd⟩, h⟩ := h
    obtain ⟨ov, ⟨x0, x1, _, _, x4⟩, _, _⟩ := h.cells
    clear h
    cases l with
    | nil =>
      simp only [List.length_nil, Nat.add_zero] at hn
      have hq : ¬ (n : Int) < (s.size : Int) := by omega
      have hqd : decide ((n : Int) < (s.size : Int)) = false := decide_eq_false hq
      have hqn : decide (n < s.size) = false := decide_eq_false (by omega)
      have EB := hide (show false = B from hB)
      clear hn hd hB
      go_enter Tryz.func45, Tryz.ntmps45
      go_wp2_with fail
      go_quiet (fail)
      go_wp2_with fail
      go_ret
      exact ⟨ret_bool EB.out, Old.drewN (Old.refl _) _⟩
    | cons d r =>
      obtain ⟨b1, b2, b3⟩ := byte_at hd
      have bx : s[n] = d := by rw [get_at s b1, b2]
      have hq : (n : Int) < (s.size : Int) := by omega
      have hqd : decide ((n : Int) < (s.size : Int)) = true := decide_eq_true hq
      have hqn : decide (n < s.size) = true := decide_eq_true (by omega)
      have hqe : ((d.toNat : Int) == (c.toNat : Int)) = B := by
        rw [← hB]
        show _ = decide (d = c)
        by_cases e : d = c
        · subst e; simp
        · have : d.toNat ≠ c.toNat := fun e2 => e (UInt8.toNat_inj.1 e2)
          simp [e]; omega
      clear hn hd b2 b3 hB
      go_enter Tryz.func45, Tryz.ntmps45
      go_wp2_with fail
      go_quiet (fail)
      go_wp2_with fail
      go_ret
      exact ⟨ret_bool (by first | exact hqe | rfl), Old.drewN (Old.refl _) _⟩
set_option maxRecDepth 100000 in
set_option maxHeartbeats 1000000 in
/-- the first error is kept -/
theorem rdfail_run (base rb : Nat) (s : ByteArray) (out : List Nd) (X : RX) (w : World) (h : RS base rb s out X w) (at_ k : Int) (p : List UInt8) (hk : k ≠ 0) (ha : ∀ l, X = .ok l → at_ = (s.size : Int) - (p.length : Int)) (hll : p.length ≤ s.size) :
    Calls Tryz.prog 28 #[.pointer (some ⟨rb, 0, none⟩), .int .i64 at_, .int .i64 k] w fun x w' => x = .returned (.tuple #[]) ∧ RS base rb s out (failX p k X) w' ∧ Bel base rb w w' := by
  cases X with
  | error b =>
    obtain ⟨p', e⟩ := b
    have HS := hide h
    obtain ⟨he, _, n, h⟩ := h
    obtain ⟨ov, ⟨_, _, _, _, x4⟩, _, _⟩ := h.cells
    have hq : (e == 0) = false := by simp [he]
    have hq2 : ¬ e = 0 := he
    clear h he ha
    go_enter Tryz.func28, Tryz.ntmps28
    go_wp2_with fail
    go_end0
    exact ⟨rfl, HS.out, Bel.refl _ _ _⟩
  | ok l =>
    have hat := ha l rfl
    obtain ⟨n, hJ, h⟩ := h
    have H1 := hide ((h.setE k).setWh at_)
    have BB := hide ((h.keepB 4 (.int .i64 k) (by decide)).trans ((h.setE k).keepB 3 (.int .i64 at_) (by decide)))
    have HK := hide (show RR base rb s n out at_ k ((w.setCell ⟨rb, 4, none⟩ (.int .i64 k)).setCell ⟨rb, 3, none⟩ (.int .i64 at_)) → RS base rb s out (failX p k (.ok l)) ((w.setCell ⟨rb, 4, none⟩ (.int .i64 k)).setCell ⟨rb, 3, none⟩ (.int .i64 at_)) from fun h => ⟨hk, hll, n, by rw [← hat]; exact h⟩)
    obtain ⟨ov, ⟨_, _, _, x3, x4⟩, hf, _⟩ := h.cells
    have f3 := hf 3
    have f4 := hf 4
    clear h hf hJ hat ha
    go_enter Tryz.func28, Tryz.ntmps28
    go_wp2_with fail
    go_end0
    exact ⟨rfl, HK.out H1.out, BB.out⟩
end Go.Proofs.YtdlcibbbebhcoaaGreatDoor
