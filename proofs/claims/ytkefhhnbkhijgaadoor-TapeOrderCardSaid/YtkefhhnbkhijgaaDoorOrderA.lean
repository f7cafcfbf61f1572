/- TapeOrder: in whatever order the members of an object are, it says the same; with another member it does not. -/
import Derived.Test.YtkefhhnbkhijgaaDoorApart
import Derived.Test.YtkefhhnbkhijgaaDoorOrderL
import Derived.Test.YtkefhhnbkhijgaaDoorTwoRow
import Derived.Test.YtkefhhnbkhijgaaDoorDeepT
namespace Go.Proofs.YtkefhhnbkhijgaaDoor
open Go.RowKit

/-! ### rows of one's own, of nodes that may be older -/
def PartsIn (base lo : Nat) (w : World) (v : Value) (ps : List (List Nd)) : Prop :=
  ∃ vs : List Value, vs.length = ps.length ∧ w.ownsRow base 25 1 v ps.length vs ∧ ∀ i, (h : i < ps.length) → (h' : i < vs.length) → NodesT lo w vs[i] ps[i]
theorem PartsIn.old {base lo : Nat} {w w' : World} {v : Value} {ps : List (List Nd)} (h : PartsIn base lo w v ps) (k : Old w w') : PartsIn base lo w' v ps := by
  obtain ⟨vs, h1, h2, h3⟩ := h
  exact ⟨vs, h1, own_old h2 k, fun i hi hi' => (h3 i hi hi').old k⟩
theorem PartsIn.is {base lo : Nat} {w : World} {v : Value} {ps : List (List Nd)} (h : PartsIn base lo w v ps) : PartsIs w v ps := by
  obtain ⟨vs, h1, h2, h3⟩ := h
  exact ⟨vs, h1, (SlT.of_own h2).sl, fun i hi hi' => (h3 i hi hi').sl⟩
theorem PartsIn.nil_ (base lo : Nat) (w : World) : PartsIn base lo w (.slice none 0 0) [] := ⟨[], rfl, own_nil _ _ _ _, fun i hi => absurd hi (by simp)⟩
theorem PartsIn.kept {T base base' lo : Nat} {w w' : World} {v : Value} {ps : List (List Nd)} (h : PartsIn base' lo w v ps) (k : Kept T base w w') (h1 : 25 ≠ T) (h2 : 57 ≠ T) : PartsIn base' lo w' v ps := by
  obtain ⟨vs, g1, g2, g3⟩ := h
  exact ⟨vs, g1, k.own g2 h1, fun i hi hi' => k.slT (g3 i hi hi') h2⟩
theorem PartsIn.form {base lo : Nat} {w : World} {v : Value} {ps : List (List Nd)} {m : Nat} (h : PartsIn base lo w v ps) (hm : ps.length = m) : ∃ A cap, v = .slice A m cap ∧ m ≤ cap ∧ cap ≤ maxLen := by
  obtain ⟨vs, _, h2, _⟩ := h
  obtain ⟨A, cap, rfl, h1, h2, _⟩ := SlT.of_own h2
  exact ⟨A, cap, by rw [hm], by omega, h2⟩
/-- a part of a row of one's own, and its nodes -/
theorem PartsOwn.cell {base n c : Nat} {w : World} {A : Option Addr} {ps : List (List Nd)} (h : PartsOwn base w (.slice A n c) ps) {k : Nat} {p : List Nd} (hk : ps[k]? = some p) : ∃ b off A' c', A = some ⟨b, off, none⟩ ∧ p.length ≤ c' ∧ c' ≤ maxLen ∧ w.cell? ⟨b, off + k, none⟩ = some (.slice A' p.length c') ∧ NodesT base w (.slice A' p.length c') p := by
  obtain ⟨hkl, hks⟩ := List.getElem?_eq_some_iff.1 hk
  obtain ⟨vs, g1, g2, g3⟩ := h
  have hkv : k < vs.length := by omega
  obtain ⟨A2, cap, he, h1, h2, h3⟩ := (SlT.of_own g2).sl
  injection he with e1 e2 e3
  subst e1 e2 e3
  obtain ⟨b, off, rfl, hc⟩ := h3 (by intro e; rw [e] at g1; simp at g1; omega)
  have hn := g3 k hkl hkv
  rw [hks] at hn
  obtain ⟨A', c', e, q1, q2⟩ := nodes_form hn rfl
  refine ⟨b, off, A', c', rfl, q1, q2, ?_, e ▸ hn⟩
  rw [← e]
  exact hc k _ (List.getElem?_eq_getElem hkv)
theorem step_push_in {o : Oper} {a : Act} {K : Act → World → Prop} {Q : Exit → Act → World → Prop} (w : World) (s x : Operand)
    (ho : o.op = .call { callee := .builtin .append, args := #[s, x], argTypes := #[23, 23] })
    (base lo : Nat) (v u : Value) (ps qs : List (List Nd)) (hs : a.eval s = v) (hown : PartsIn base lo w v ps) (hother : PartsIn base lo w u qs) (hap : TwoRows v u) (g cap : Nat) (pv : Value) (p : List Nd) (hx : a.eval x = .slice (some ⟨g, 0, none⟩) 1 cap) (h0 : w.cell? ⟨g, 0, none⟩ = some pv)
    (hp : NodesT lo w pv p) (hlen : ps.length + 1 ≤ 4194304) (hbase : base ≤ w.heap.size)
    (h : ∀ v' w', PartsIn base lo w' v' (ps ++ [p]) → PartsIn base lo w' u qs → TwoRows v' u → Kept 25 base w w' → K (a.put o.dst v') w') : o.wp Tryd.prog a w K Q := by
  obtain ⟨i0, hi, hz0, hz1, hz2⟩ := info_parts partInfo
  obtain ⟨vs, g1, g2, g3⟩ := hown
  have hone : ∀ y ∈ [pv], y.oneCell' = true := by
    intro y hy
    simp at hy
    subst hy
    obtain ⟨A, c, rfl, _⟩ := hp
    rfl
  obtain ⟨v', w', hr, own', hg, _, hblk⟩ := run_append_own_at (P := Tryd.prog) (w := w) base 23 o.type 25 i0 (.slice none 0 0) 1 24 Tryd.underlying23 hi hz0 hz1 hz2 rfl (by omega) v ps.length vs g2 ⟨g, 0, none⟩ 1 cap [pv] rfl (fun j y hy => by
    match j, hy with
    | 0, hy => simp at hy; subst hy; exact h0
    | j + 1, hy => simp at hy) hone (by unfold maxLen; omega) (by omega) hbase
  have k := Kept.of_grown g2 hg hbase
  unfold Oper.wp execOp
  simp only [ho, resolve, invoke, builtin, Sem.run_bind, Sem.run_pure, Result.andThen_ok, List.map_toArray, List.map_cons, List.map_nil, hs, hx, hr]
  refine h v' w' ⟨vs ++ [pv], by simp [g1], ?_, fun i hi hi' => ?_⟩ ?_ ?_ k
  · rw [List.length_append]; exact own'
  · rcases Nat.lt_or_ge i ps.length with hl | hl
    · rw [List.getElem_append_left (by omega), List.getElem_append_left hl]
      exact k.slT (g3 i hl (by omega)) (by decide)
    · have e1 : (ps ++ [p])[i] = p := by
        rw [List.getElem_append_right hl]
        simp
      have e2 : (vs ++ [pv])[i] = pv := by
        rw [List.getElem_append_right (by omega)]
        simp
      rw [e1, e2]
      exact k.slT hp (by decide)
  · obtain ⟨us, k1, k2, k3⟩ := hother
    exact ⟨us, k1, own_else k2 hg hap.symm, fun i hi hi' => k.slT (k3 i hi hi') (by decide)⟩
  · intro g' hg' hu
    rcases hblk with hb | hb
    · exact hap g' (hb.symm.trans hg') hu
    · rw [hb] at hg'
      injection hg' with hg'
      obtain ⟨us, k1, k2, k3⟩ := hother
      have := (k2.lt g' hu).2
      omega

/-! ### a number brought below another -/
def bringN (i n : Int) : Nat := if i.tmod n < 0 then (i.tmod n + n).toNat else (i.tmod n).toNat
theorem bringN_lt {i : Int} {n : Nat} (hn : 0 < n) : bringN i n < n := by
  have h1 := Int.tmod_lt_of_pos i (show (0 : Int) < n by omega)
  unfold bringN
  split <;> omega
set_option maxRecDepth 100000 in
theorem bring_at (i n : Int) (w : World) (hn : 0 < n) (hn' : n ≤ 1048576) :
    Calls Tryd.prog 34 #[.int .i64 i, .int .i64 n] w fun e w' => e = .returned (.int .i64 (bringN i n)) ∧ w = w' := by
  have h1 := Int.tmod_lt_of_pos i hn
  have h2 := Int.neg_tmod i n
  have h3 : -n < i.tmod n := by
    have := Int.tmod_lt_of_pos (-i) hn
    rw [h2] at this
    omega
  clear h2
  obtain ⟨B, hB⟩ : ∃ B, Hid (bringN i n = B) := ⟨_, hide rfl⟩
  rw [hB.out]
  have hbb := hB.out
  unfold bringN at hbb
  have HB := hide hbb
  clear hbb
  go_enter Tryd.func34, Tryd.ntmps34
  go_wp2_with fail
  · go_ret
    have := HB.out
    rw [if_pos (by omega)] at this
    subst this
    exact ⟨ret_int (by omega), rfl⟩
  · go_ret
    have := HB.out
    rw [if_neg (by omega)] at this
    subst this
    exact ⟨ret_int (by omega), rfl⟩
def bd6 : List ByteArray := [letterAt 2, letterAt 0, letterAt 5, letterAt 4, letterAt 1, letterAt 3]
theorem bd6_all : (bd6.all fun s => vU s && decide (s.size ≤ 1)) = true := by kernel_rfl
theorem bd6_keys : KeysA bd6 where
  valid s hs := by have := List.all_eq_true.1 bd6_all s hs; simp at this; exact this.1
  nodup := by decide
  size s hs := by have := List.all_eq_true.1 bd6_all s hs; simp at this; unfold maxLen; omega
theorem bd6_len : bd6.length = 6 := rfl
theorem bd6_cut {i : Nat} (h : i < 6) : (⟨#[99, 97, 102, 101, 98, 100]⟩ : ByteArray).extract i (i + 1) = bd6[i]'h := by
  have h5 : i = 0 ∨ i = 1 ∨ i = 2 ∨ i = 3 ∨ i = 4 ∨ i = 5 := by omega
  rcases h5 with rfl | rfl | rfl | rfl | rfl | rfl <;> rfl
theorem bd6_next {i : Nat} (h : i < 6) : bd6.take (i + 1) = bd6.take i ++ [bd6[i]'h] := List.take_succ_eq_append_getElem h
end Go.Proofs.YtkefhhnbkhijgaaDoor
