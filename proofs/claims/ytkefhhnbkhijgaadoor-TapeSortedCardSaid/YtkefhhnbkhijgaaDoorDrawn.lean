/- The statements' own inputs: what is drawn from a seed. -/
import Derived.Test.YtkefhhnbkhijgaaDoorValueS
namespace Go.Proofs.YtkefhhnbkhijgaaDoor
open Go.RowKit

/-- what is drawn -/
def DrawnT (w : World) (e : Ending) (w' : World) : Prop :=
  ∃ (v : Value) (t : List Nd) (j : J), e = .returned (.tuple #[v, .bool true]) ∧ NodesT w.heap.size w' v t ∧ May t j ∧ TextsOk t ∧ j.deep ≤ 7 ∧ t.length ≤ 301 ∧ Old w w'
theorem two_old {sb : Nat} {w a b : World} (h : Old w a) (k : Two sb sb a b) (hs : w.heap.size ≤ sb) : Old w b :=
  Below.trans h (k.below (B := w.heap.size) h.size hs hs)
theorem drawn_at {w w1 : World} {u : Value} {l : List Int} (h : NumsIs w u l) (o : Old w w1) {sb : Nat} (hs : w.heap.size + 1 = sb) (A : Option Addr) (c : Nat) (hu : u = .slice A l.length c) (hb : w1.cell? ⟨sb, 0, none⟩ = some (.slice A (l.take 150).length c)) (hf : w1.frozen? ⟨sb, 0, none⟩ = false) :
    SeedIs sb w1 (l.take 150) := by
  subst hu
  obtain ⟨A', c', e, h1, h2, h3⟩ := h
  injection e with e1 e2 e3
  subst e1
  subst e3
  refine ⟨⟨A, c, hb, by simp; omega, h2, fun hne => ?_⟩, hf⟩
  have hl : l ≠ [] := by intro h; subst h; simp at hne
  obtain ⟨b, off, rfl, hc⟩ := h3 (by simp [numVals, hl])
  have hb0 : b < w.heap.size := by
    cases l with
    | nil => exact absurd rfl hl
    | cons x xs => exact World.block_lt_of_cell? w _ (hc 0 (.int .i64 x) rfl)
  refine ⟨b, off, rfl, by omega, fun j u hu => o.cell (hc j _ ?_)⟩
  have := List.getElem?_take_of_lt (l := l) (i := j) (j := 150)
  have hj : j < 150 := by
    have := (List.getElem?_eq_some_iff.1 hu).1
    simp at this; omega
  rw [List.getElem?_take_of_lt hj] at hu
  simp [numVals, hu]

set_option maxRecDepth 100000 in
set_option maxHeartbeats 1000000 in
theorem drawn_run (u : Value) (l : List Int) (w : World) (h : NumsIs w u l) (hT : Tabs w) :
    Calls Tryd.prog 27 #[.agg #[u]] w (DrawnT w) := by
  have H := hide h
  have HT := hide hT
  obtain ⟨A, c, rfl, h1, h2, _⟩ := h
  unfold maxLen at h2
  obtain ⟨n, hn⟩ : ∃ n, Hid (l.length = n) := ⟨_, hide rfl⟩
  have AT := hide (fun (w1 : World) (o : Old w w1) => drawn_at (sb := w.heap.size + 1) H.out o rfl A c rfl)
  rw [List.length_take] at AT
  rw [hn.out] at h1 AT
  obtain ⟨m, hm⟩ : ∃ m, Hid (min 150 n = m) := ⟨_, hide rfl⟩
  rw [hm.out] at AT
  have hmn : min (n : Int) 150 = (m : Int) := by have := hm.out; omega
  have hmc : m ≤ c := by have := hm.out; omega
  rw [hn.out]
  have FIN := hide (fun (w1 : World) (o : Old w w1) (s : SeedIs (w.heap.size + 1) w1 (l.take 150)) => value_run_s w HT.out (w.heap.size + 1) (by omega) 6 1 rfl (l.take 150) w1 (by simp; omega) s o)
  clear H HT hT
  go_enter Tryd.func27, Tryd.ntmps27
  go_wp2_with fail
  refine (FIN.out _ ?ho (AT.out _ ?hp ?hb ?hf)).mono ?_
  case ho => exact Old.alloc (Old.alloc (Old.refl _) _) _
  case hp => exact Old.alloc (Old.alloc (Old.refl _) _) _
  case hb => go_simp
  case hf => go_simp
  rintro e w1 ⟨v, t, j, N', rfl, n1, m1, x1, d1, l1, _, s1, t1⟩
  have FI := hide (⟨v, t, j, rfl, n1.mono (by simp only [World.size_alloc]; omega), m1, x1, by omega, by simp at l1; omega, two_old (Old.alloc (Old.alloc (Old.refl _) _) _) t1 (by omega)⟩ : DrawnT w (.returned (.tuple #[v, .bool true])) w1)
  clear n1 m1 x1 s1 t1
  go_wp2_with fail
  go_ret2
  exact FI.out
end Go.Proofs.YtkefhhnbkhijgaaDoor
