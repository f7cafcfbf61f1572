/- Two lists of entries that grow beside each other. -/
import Derived.Test.YtmfbblcipakaiaaGreatDoorGrpJ
import Derived.Maps.AppendAt
namespace Go.Proofs.YtmfbblcipakaiaaGreatDoor
open Go.RowKit

/-- a list of entries that grows, its rows in the old world -/
def MixE (w0 w : World) (v : Value) (l : List Ent) : Prop :=
  ∃ vs : List (Value × Value), vs.length = l.length ∧ w.ownsRow w0.heap.size 51 3 v l.length (entVals vs l) ∧ ∀ i, (h : i < l.length) → (h' : i < vs.length) → RowIs w0 vs[i].1 l[i].key ∧ RowIs w0 vs[i].2 l[i].vals
theorem MixE.old {w0 w w' : World} {v : Value} {l : List Ent} (h : MixE w0 w v l) (ho : Old w w') : MixE w0 w' v l := by
  obtain ⟨vs, h1, h2, h3⟩ := h
  exact ⟨vs, h1, own_old h2 ho, h3⟩
theorem MixE.is {w0 w : World} {v : Value} {l : List Ent} (h : MixE w0 w v l) (ho : Old w0 w) : EntsIs w v l := by
  obtain ⟨vs, h1, h2, h3⟩ := h
  exact ⟨vs, h1, (SlT.of_own h2).sl, fun i hi hi' => ⟨(h3 i hi hi').1.old ho, (h3 i hi hi').2.old ho⟩⟩
theorem MixE.nil_ (w0 w : World) : MixE w0 w (.slice none 0 0) [] := ⟨[], rfl, World.ownsRow_nil w _ _ 3, fun i hi => absurd hi (by simp)⟩
/-- two slices in blocks of their own -/
def Away (v u : Value) : Prop := ∀ b, v.ownBlock = some b → u.ownBlock ≠ some b
theorem Away.symm {v u : Value} (h : Away v u) : Away u v := fun b hb e => h b e hb
theorem Away.nil_ (u : Value) : Away (.slice none 0 0) u := fun b h => by simp [Value.ownBlock] at h
theorem MixE.side {w0 w w' : World} {v u : Value} {l : List Ent} (h : MixE w0 w u l) (hg : w.grownBy w' v.ownBlock) (ha : Away v u) : MixE w0 w' u l := by
  obtain ⟨vs, h1, ⟨h2, h3⟩, h4⟩ := h
  refine ⟨vs, h1, ⟨h2, ?_⟩, h4⟩
  rcases h3 with h3 | ⟨g, cap, cur, rfl, hb, hh, r⟩
  · exact .inl h3
  · refine .inr ⟨g, cap, cur, rfl, hb, ?_, r⟩
    rw [hg.block g (block_lt hh) (fun e => ha g e.symm rfl)]
    exact hh
theorem MixE.lt {w0 w : World} {v : Value} {l : List Ent} (h : MixE w0 w v l) : ∀ b, v.ownBlock = some b → b < w.heap.size := by
  obtain ⟨vs, _, ⟨_, h3⟩, _⟩ := h
  intro b hb
  rcases h3 with ⟨rfl, _⟩ | ⟨g, cap, cur, rfl, _, hh, _⟩
  · simp [Value.ownBlock] at hb
  · simp [Value.ownBlock] at hb
    subst hb
    exact block_lt hh
theorem step_push_two {o : Oper} {a : Act} {K : Act → World → Prop} {Q : Exit → Act → World → Prop} (w0 w : World) (s x : Operand)
    (ho : o.op = .call { callee := .builtin .append, args := #[s, x], argTypes := #[31, 31] })
    (v : Value) (l : List Ent) (hs : a.eval s = v) (hown : MixE w0 w v l) (u : Value) (m : List Ent) (hu : MixE w0 w u m) (ha : Away v u)
    (g cap : Nat) (kv vv : Value) (e : Ent) (hx : a.eval x = .slice (some ⟨g, 0, none⟩) 1 cap)
    (h0 : w.cell? ⟨g, 0, none⟩ = some kv) (h1 : w.cell? ⟨g, 1, none⟩ = some vv) (h2 : w.cell? ⟨g, 2, none⟩ = some (.int .i64 e.w)) (hk : RowIs w0 kv e.key) (hv : RowIs w0 vv e.vals)
    (hlen : l.length + 1 ≤ 2097152) (hold : Old w0 w)
    (h : ∀ v' w', MixE w0 w' v' (l ++ [e]) → MixE w0 w' u m → Away v' u → Old w0 w' → K (a.put o.dst v') w') : o.wp Tryz.prog a w K Q := by
  obtain ⟨i0, hi, hz0, hz1, hz2⟩ := info_parts entInfo
  have hlt := hu.lt
  obtain ⟨vs, e1, e2, e3⟩ := id hown
  obtain ⟨A, cp, rfl, _⟩ := id hk
  obtain ⟨B, cq, rfl, _⟩ := id hv
  obtain ⟨v', w', hr, h3, h4, h5, h6⟩ := run_append_own_at (P := Tryz.prog) w w0.heap.size 31 o.type 51 i0 (.agg #[.slice none 0 0, .slice none 0 0, .int .i64 0]) 3 56 Tryz.underlying31 hi hz0 hz1 hz2 rfl (by omega) v l.length (entVals vs l) e2
    ⟨g, 0, none⟩ 1 cap [.slice A e.key.length cp, .slice B e.vals.length cq, .int .i64 e.w] rfl (by
      intro j q hq
      match j, hq with
      | 0, hq => simp at hq; subst hq; exact h0
      | 1, hq => simp at hq; subst hq; simpa [Addr.add] using h1
      | 2, hq => simp at hq; subst hq; simpa [Addr.add] using h2
      | j + 3, hq => simp at hq) (by
      intro q hq
      simp at hq
      rcases hq with rfl | rfl | rfl <;> rfl) (by unfold maxLen; omega) (by omega) hold.size
  unfold Oper.wp execOp
  simp only [ho, resolve, invoke, builtin, Sem.run_bind, Sem.run_pure, Result.andThen_ok, List.map_toArray, List.map_cons, List.map_nil, hs, hx, hr]
  refine h v' w' ⟨vs ++ [(.slice A e.key.length cp, .slice B e.vals.length cq)], by simp [e1], ?_, ?_⟩ (hu.side h4 ha) ?_ ((Kept.of_grown e2 h4 hold.size).old hold (Nat.le_refl _))
  · rw [entVals_append vs l _ _ e1, List.length_append]
    exact h3
  · intro i hi hi'
    rcases Nat.lt_or_ge i l.length with hlt | hge
    · have : i < vs.length := by omega
      rw [List.getElem_append_left this]
      simp only [List.getElem_append_left hlt]
      exact e3 i hlt this
    · have : i = l.length := by simp at hi; omega
      subst this
      simp only [List.getElem_append_right (Nat.le_refl _), Nat.sub_self, List.getElem_cons_zero]
      rw [List.getElem_append_right (by omega)]
      simp only [e1, Nat.sub_self, List.getElem_cons_zero]
      exact ⟨hk, hv⟩
  · rcases h6 with h6 | h6
    · intro b hb
      exact ha b (h6 ▸ hb)
    · intro b hb hub
      rw [h6] at hb
      injection hb with hb
      have := hlt b hub
      omega

/-! ### what GroupBack reckons -/
def least : Int := -9223372036854775808
def kept (l : List Ent) : List Ent := l.filter fun e => e.w != least
theorem kept_snoc_yes {l : List Ent} {e : Ent} (h : e.w ≠ least) : kept (l ++ [e]) = kept l ++ [e] := by simp [kept, h]
theorem kept_snoc_no {l : List Ent} {e : Ent} (h : e.w = least) : kept (l ++ [e]) = kept l := by simp [kept, h]
theorem kept_len (l : List Ent) : (kept l).length ≤ l.length := List.length_filter_le _ _
theorem kept_fine {l : List Ent} (h : ∀ e ∈ l, EntFine e) : ∀ e ∈ kept l, EntFine e := fun e he => h e (List.mem_filter.1 he).1
theorem back_fine {l : List Ent} (h : ∀ e ∈ l, EntFine e) : ∀ e ∈ (kept l).map turned, EntFine e := fun e he => by
  obtain ⟨y, hy, rfl⟩ := List.mem_map.1 he
  have h1 := List.mem_filter.1 hy
  have h2 := h y h1.1
  have h3 : y.w ≠ least := by simpa using h1.2
  refine ⟨h2.key, ?_, h2.vals⟩
  have := h2.w
  unfold fit least at *
  show -9223372036854775808 ≤ -y.w ∧ -y.w < 9223372036854775808
  omega
theorem back_add (f : Gf) (l : List Ent) : gAdd (gAdd f l) (l.map turned) = f := by
  funext k i
  unfold gAdd
  rw [tot_turned]
  omega
theorem back_err {K S : Nat} {f : Gf} {l : List Ent} (hf : GFit S f) (h : appErr K S f l = 0) : appErr K S (appF K S f l) (l.map turned) = 0 ∧ appF K S (appF K S f l) (l.map turned) = f := by
  have h1 : appF K S f l = gAdd f l := by unfold appF; rw [if_pos h]
  obtain ⟨hm, _⟩ := appErr_zero.1 h
  have h2 : appErr K S (gAdd f l) (l.map turned) = 0 := by
    refine appErr_zero.2 ⟨?_, okB_iff.2 fun e he i hi => ?_⟩
    · unfold allMay at hm ⊢
      rw [List.all_map]
      exact hm
    · rw [back_add]
      exact hf _ _ hi
  rw [h1]
  refine ⟨h2, ?_⟩
  unfold appF
  rw [if_pos h2, back_add]
theorem LSt.fit {w0 w : World} {g bm K S m : Nat} {f : Gf} (h : LSt w0 w g bm K S m f) : GFit S f := by obtain ⟨B, hB⟩ := h.is; exact hB.fit
theorem chain_none {K S : Nat} {f g : Gf} {a b : List Item} (ha : Delta K S f g a) (hb : Delta K S g f b) : normErr (a ++ b) = 0 ∧ normOut (a ++ b) = [] := by
  have h := chain_norm (f := f) (g := f) (delta_chain ha.wts hb)
  exact ⟨h.1, delta_same h.2⟩
theorem mix_start (w : World) : Mix w (w.alloc (.cells #[] 60)) (.slice (some ⟨w.heap.size, 0, none⟩) 0 0) [] :=
  ⟨[], rfl, ⟨rfl, .inr ⟨w.heap.size, 0, #[], rfl, Nat.le_refl _, heap_alloc_at _, Nat.le_refl _, Nat.zero_le _, rfl, rfl⟩⟩, fun i hi => absurd hi (by simp)⟩
end Go.Proofs.YtmfbblcipakaiaaGreatDoor
