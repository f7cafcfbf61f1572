/- The document's value. -/
import Derived.Test.YtmolmphbhdbcaaaDoorRval
namespace Go.Proofs.YtmolmphbhdbcaaaDoor
open Go.RowKit

/-- a node of a known kind -/
def ndOf (K : Int) (key : ByteArray) (N : Int) (s : ByteArray) (Z : Int) : Nd := ⟨K, key, N, s, Z⟩
structure ValIn (t : List Nd) (a E : Nat) (v : Value) (w : World) (K : Int) (key : ByteArray) (N : Int) (s : ByteArray) (Z : Int) : Prop where
  cells : ∃ b1 o1 ca, v = .slice (some ⟨b1, o1, none⟩) t.length ca ∧ t.length ≤ ca ∧ ca ≤ maxLen ∧ w.cell? ⟨b1, o1 + a * 5, none⟩ = some (.int .i64 K) ∧ w.cell? ⟨b1, o1 + a * 5 + 1, none⟩ = some (.string key) ∧ w.cell? ⟨b1, o1 + a * 5 + 2, none⟩ = some (.int .i64 N) ∧
    w.cell? ⟨b1, o1 + a * 5 + 3, none⟩ = some (.string s) ∧ w.cell? ⟨b1, o1 + a * 5 + 4, none⟩ = some (.int .i64 Z)
  len : t.length ≤ 4000
  lt : a < E
  le : E ≤ t.length
  ssize : s.size ≤ 9223372036854775807

section
variable {t : List Nd} {a E : Nat} {v : Value} {w : World} {K : Int} {key : ByteArray} {N : Int} {s : ByteArray} {Z : Int}
set_option maxRecDepth 100000 in
set_option maxHeartbeats 1000000 in
theorem value_short (h : ValIn t a E v w K key N s Z) (hz : Z < 1) : Calls Tryd.prog 50 #[v, .int .i64 a, .int .i64 E] w fun e w' => e = .returned (.bool false) ∧ Old w w' := by
  obtain ⟨⟨b1, o1, ca, rfl, h1, h2, x0, x1, x2, x3, x4⟩, hl, hlt, hle, hs⟩ := h
  unfold maxLen at h2
  go_enter Tryd.func50, Tryd.ntmps50
  go_wp2_with fail
  go_ret
  exact ⟨rfl, (Old.refl _).alloc _⟩
set_option maxRecDepth 100000 in
set_option maxHeartbeats 1000000 in
theorem value_long (h : ValIn t a E v w K key N s Z) (hz : (E : Int) - a < Z) : Calls Tryd.prog 50 #[v, .int .i64 a, .int .i64 E] w fun e w' => e = .returned (.bool false) ∧ Old w w' := by
  obtain ⟨⟨b1, o1, ca, rfl, h1, h2, x0, x1, x2, x3, x4⟩, hl, hlt, hle, hs⟩ := h
  unfold maxLen at h2
  have hz1 : ¬ Z < 1 := by omega
  go_enter Tryd.func50, Tryd.ntmps50
  go_wp2_with fail
  go_ret
  exact ⟨rfl, (Old.refl _).alloc _⟩
set_option maxRecDepth 100000 in
set_option maxHeartbeats 4000000 in
theorem value_leaf (h : ValIn t a E v w K key N s Z) (hz1 : ¬ Z < 1) (hz2 : ¬ (E : Int) - a < Z) (h6 : ¬ K = 6) (h7 : ¬ K = 7) : Calls Tryd.prog 50 #[v, .int .i64 a, .int .i64 E] w fun e w' => e = .returned (.bool (fitsB vU (ndOf K key N s Z))) ∧ Old w w' := by
  obtain ⟨⟨b1, o1, ca, rfl, h1, h2, x0, x1, x2, x3, x4⟩, hl, hlt, hle, hs⟩ := h
  unfold maxLen at h2
  have CV := hide (fun w' => ref_Valid' s w' hs)
  clear hs
  go_enter Tryd.func50, Tryd.ntmps50
  go_wp2_with (refine (CV.out _).mono ?_; rintro e w1 ⟨rfl, o1⟩)
  all_goals go_ret
  all_goals refine ⟨ret_bool ?_, by first | exact (Old.refl _).alloc _ | exact Old.trans ((Old.refl _).alloc _) (by assumption)⟩
  all_goals (simp only [beq_iff_eq, beq_eq_false_iff_ne, ne_eq] at *)
  all_goals (rw [Bool.eq_iff_iff]; try simp [fitsB, ndOf, ← str_none, *])
  all_goals (try ((repeat' split) <;> simp_all <;> omega))
  all_goals (intro g1 g2; replace g1 := of_decide_eq_true g1; replace g2 := of_decide_eq_true g2; exfalso; omega)
set_option maxRecDepth 100000 in
set_option maxHeartbeats 1000000 in
theorem value_not (h : ValIn t a E v w K key N s Z) (hz1 : ¬ Z < 1) (hz2 : ¬ (E : Int) - a < Z) (hk : K = 6 ∨ K = 7) (hp : ¬ (N = 0 ∧ s = none_)) : Calls Tryd.prog 50 #[v, .int .i64 a, .int .i64 E] w fun e w' => e = .returned (.bool false) ∧ Old w w' := by
  obtain ⟨⟨b1, o1, ca, rfl, h1, h2, x0, x1, x2, x3, x4⟩, hl, hlt, hle, hs⟩ := h
  unfold maxLen at h2
  have HP := hide hp
  have HK := hide hk
  clear hs hp hk
  by_cases hn : N = 0
  · have hs' : ¬ s.toList = [] := fun e => HP.out ⟨hn, (str_none _).1 e⟩
    subst hn
    rcases HK.out with rfl | rfl
    all_goals
      go_enter Tryd.func50, Tryd.ntmps50
      go_wp2_with fail
      go_ret
      exact ⟨rfl, (Old.refl _).alloc _⟩
  · rcases HK.out with rfl | rfl
    all_goals
      go_enter Tryd.func50, Tryd.ntmps50
      go_wp2_with fail
      go_ret
      exact ⟨rfl, (Old.refl _).alloc _⟩
set_option maxRecDepth 100000 in
set_option maxHeartbeats 1000000 in
theorem value_hold (P : Prop) (h : ValIn t a E v w K key 0 none_ Z) (hz1 : ¬ Z < 1) (hz2 : ¬ (E : Int) - a < Z) (hk : K = 6 ∨ K = 7) (hP : ∀ w', Old w w' → Calls Tryd.prog 74 #[v, .int .i64 a] w' (SaysB P w')) : Calls Tryd.prog 50 #[v, .int .i64 a, .int .i64 E] w (SaysB P w) := by
  obtain ⟨⟨b1, o1, ca, rfl, h1, h2, x0, x1, x2, x3, x4⟩, hl, hlt, hle, hs⟩ := h
  unfold maxLen at h2
  have HP := hide hP
  have HK := hide hk
  have hne : none_.toList = [] := (str_none _).2 rfl
  clear hs hP hk
  rcases HK.out with rfl | rfl
  all_goals
    go_enter Tryd.func50, Tryd.ntmps50
    go_wp2_with fail
    refine (HP.out _ ((Old.refl _).alloc _)).mono ?_
    rintro e w1 ⟨b, hb, rfl, ow⟩
    have HB := hide hb
    clear hb
    go_wp2_with fail
    go_ret
    exact says_as HB.out (Old.trans ((Old.refl _).alloc _) ow)
end
theorem says_iff {P P' : Prop} {f : FuncId} {args : Array Value} {w : World} (h : Calls Tryd.prog f args w (SaysB P w)) (e : P ↔ P') : Calls Tryd.prog f args w (SaysB P' w) := by
  have : P = P' := propext e
  subst this
  exact h
theorem says_of {P : Prop} {b : Bool} {f : FuncId} {args : Array Value} {w : World} (h : Calls Tryd.prog f args w fun e w' => e = .returned (.bool b) ∧ Old w w') (e : b = true ↔ P) : Calls Tryd.prog f args w (SaysB P w) :=
  h.mono fun _ _ ⟨h1, h2⟩ => ⟨b, e, h1, h2⟩
/-- value says whether one stands there -/
theorem value_run (v : Value) (t : List Nd) (w0 : World) (ht : NodesIs w0 v t) (hl : t.length ≤ 4000) (hk : TextsOk t) : ∀ (m a E : Nat) (w : World), t.length - a ≤ m → Old w0 w → a < E → E ≤ t.length →
    Calls Tryd.prog 50 #[v, .int .i64 a, .int .i64 E] w (SaysB (IsVal t a E) w) := by
  intro m
  induction m with
  | zero => intro a E w h1 _ h3 h4; omega
  | succ m ih =>
    intro a E w h1 ho hlt hle
    have ha : a < t.length := by omega
    have IH : ∀ p E w, a < p → p < E → E ≤ t.length → Old w0 w → Calls Tryd.prog 50 #[v, .int .i64 p, .int .i64 E] w (SaysB (IsVal t p E) w) := fun p E w g1 g2 g3 g4 => ih p E w (by omega) g4 g2 g3
    obtain ⟨x, hx⟩ : ∃ x, t[a] = x := ⟨_, rfl⟩
    have hin : ValIn t a E v w x.kind x.key x.n x.s x.size := by
      obtain ⟨A, ca, rfl, h1, h2, h3⟩ := ht.nodes
      obtain ⟨b1, o1, rfl, hc⟩ := h3.resolve_left (by omega)
      obtain ⟨c0, c1, c2, c3, c4⟩ := hc a ha
      rw [hx] at c0 c1 c2 c3 c4
      refine ⟨⟨b1, o1, ca, rfl, h1, h2, ho.cell c0, ho.cell c1, ho.cell c2, ho.cell c3, ho.cell c4⟩, hl, hlt, hle, ?_⟩
      have := (hk _ (List.getElem_mem ha)).2
      rw [hx] at this
      unfold maxLen at this
      omega
    by_cases hz1 : x.size < 1
    · exact says_of (value_short hin hz1) (by
        simp only [Bool.false_eq_true, false_iff]
        intro hv
        have := (val_size ha hv).1
        rw [hx] at this
        omega)
    · by_cases hz2 : (E : Int) - a < x.size
      · exact says_of (value_long hin hz2) (by
          simp only [Bool.false_eq_true, false_iff]
          intro hv
          have := (val_size ha hv).2
          rw [hx] at this
          omega)
      · by_cases h67 : x.kind = 6 ∨ x.kind = 7
        · obtain ⟨n, hn⟩ : ∃ n : Nat, x.size = (n : Int) + 1 := ⟨x.size.toNat - 1, by omega⟩
          have hV := val_hold (t := t) (a := a) (E := E) (n := n) ha (by rw [hx]; exact hn) (by omega) (by rw [hx]; exact h67)
          by_cases hp : x.n = 0 ∧ x.s = none_
          · have hin' : ValIn t a E v w x.kind x.key 0 none_ x.size := by rw [← hp.1, ← hp.2]; exact hin
            refine says_iff (value_hold (IsParts t (a + 1) (a + 1 + n) (decide (t[a].kind = 7)) []) hin' hz1 hz2 h67 fun w' ho' => ?_) (by rw [hV, hx]; simp [hp])
            rcases h67 with h6 | h7
            · rw [show decide (t[a].kind = 7) = false by rw [hx, h6]; rfl]
              exact parts_list v t w0 a n ht hl ha (by rw [hx]; exact hn) (by omega) (by rw [hx]; exact h6) IH w' (Old.trans ho ho')
            · rw [show decide (t[a].kind = 7) = true by rw [hx, h7]; rfl]
              exact parts_obj v t w0 a n ht hl hk ha (by rw [hx]; exact hn) (by omega) (by rw [hx]; exact h7) IH w' (Old.trans ho ho')
          · exact says_of (value_not hin hz1 hz2 h67 hp) (by
              simp only [Bool.false_eq_true, false_iff]
              intro hv
              have := (hV.1 hv).1
              rw [hx] at this
              exact hp this)
        · have h6 : ¬ x.kind = 6 := fun h => h67 (.inl h)
          have h7 : ¬ x.kind = 7 := fun h => h67 (.inr h)
          refine says_of (value_leaf hin hz1 hz2 h6 h7) ?_
          have := val_leaf (t := t) (a := a) (E := E) ha (by rw [hx]; omega) (by rw [hx]; exact h6) (by rw [hx]; exact h7)
          rw [this, hx]
          rfl
end Go.Proofs.YtmolmphbhdbcaaaDoor

