/- The holders that are open, in memory: a row of structs that the call owns, with a map each. -/
import Derived.Test.YtkefhhnbkhijgaaDoorKeys
import Derived.Laws.OwnMore
namespace Go.Proofs.YtkefhhnbkhijgaaDoor
open Go.RowKit

def Hold.kind (h : Hold) : Int := if h.obj then 7 else 6
def holdVals : List Hold → List Value → List Value
  | h :: hs, m :: ms => .int .i64 h.kind :: .int .i64 h.fin :: m :: holdVals hs ms
  | _, _ => []
theorem holdVals_length : ∀ (hs : List Hold) (ms : List Value), ms.length = hs.length → (holdVals hs ms).length = hs.length * 3
  | [], [], _ => rfl
  | _ :: hs, _ :: ms, h => by simp only [holdVals, List.length_cons]; have := holdVals_length hs ms (by simpa using h); omega
theorem holdVals_append : ∀ (hs : List Hold) (ms : List Value) (hs' : List Hold) (ms' : List Value), ms.length = hs.length → holdVals (hs ++ hs') (ms ++ ms') = holdVals hs ms ++ holdVals hs' ms'
  | [], [], _, _, _ => rfl
  | h :: hs, m :: ms, hs', ms', e => by
    simp only [List.cons_append, holdVals]
    rw [holdVals_append hs ms hs' ms' (by simpa using e)]
theorem holdVals_one (h : Hold) (m : Value) : holdVals [h] [m] = [.int .i64 h.kind, .int .i64 h.fin, m] := rfl
/-- a holder's map: none, or one of the call's own that holds the keys that were there -/
def MapIs (base : Nat) (w : World) (h : Hold) (m : Value) : Prop := (m = .map none ∧ h.obj = false) ∨ ∃ b, m = .map (some b) ∧ base ≤ b ∧ Keys w b h.had
def Apart (ms : List Value) : Prop := ms.Pairwise fun a b => ∀ k, a = .map (some k) → b ≠ .map (some k)
def OpenIs (base : Nat) (w : World) (v : Value) (S : List Hold) : Prop :=
  ∃ ms : List Value, ms.length = S.length ∧ w.ownsRow base 82 3 v S.length (holdVals S.reverse ms.reverse) ∧ (∀ i, (h : i < S.length) → (h' : i < ms.length) → MapIs base w S[i] ms[i]) ∧ Apart ms
theorem MapIs.old {base : Nat} {w w' : World} {h : Hold} {m : Value} (k : MapIs base w h m) (ho : Old w w') : MapIs base w' h m := by
  rcases k with k | ⟨b, h1, h2, h3⟩
  · exact .inl k
  · exact .inr ⟨b, h1, h2, h3.old ho⟩
theorem OpenIs.old {base : Nat} {w w' : World} {v : Value} {S : List Hold} (h : OpenIs base w v S) (ho : Old w w') : OpenIs base w' v S := by
  obtain ⟨ms, h1, h2, h3, h4⟩ := h
  exact ⟨ms, h1, own_old h2 ho, fun i hi hi' => (h3 i hi hi').old ho, h4⟩
theorem own_fits {base T size n : Nat} {w : World} {v : Value} {xs : List Value} (h : w.ownsRow base T size v n xs) (hn : 0 < n) : ∃ g cap, v = .slice (some ⟨g, 0, none⟩) n cap ∧ n ≤ cap ∧ cap ≤ maxLen ∧ base ≤ g ∧ ∀ j u, xs[j]? = some u → w.cell? ⟨g, j, none⟩ = some u := by
  obtain ⟨hl, h2⟩ := h
  rcases h2 with ⟨rfl, h0⟩ | ⟨g, cap, cur, rfl, hb, hh, hnc, hm, hs, ht⟩
  · omega
  · refine ⟨g, cap, rfl, hnc, hm, hb, fun j u hu => ?_⟩
    rw [cell_of_heap hh]
    rw [← ht, List.getElem?_take] at hu
    split at hu
    · simpa using hu
    · cases hu
theorem own_less {base T size n m g cap : Nat} {w : World} {xs : List Value} (h : w.ownsRow base T size (.slice (some ⟨g, 0, none⟩) n cap) n xs) (hm : m ≤ n) : w.ownsRow base T size (.slice (some ⟨g, 0, none⟩) m cap) m (xs.take (m * size)) := by
  obtain ⟨hl, h2⟩ := h
  rcases h2 with ⟨h0, _⟩ | ⟨g', cap', cur, he, hb, hh, hnc, hmx, hs, ht⟩
  · cases h0
  · injection he with e1 e2 e3
    injection e1 with e1
    injection e1 with e1
    subst e1 e3
    have h3 : m * size ≤ n * size := Nat.mul_le_mul_right _ hm
    refine ⟨by rw [List.length_take, hl, Nat.min_eq_left h3], .inr ⟨g, cap, cur, rfl, hb, hh, by omega, hmx, hs, ?_⟩⟩
    rw [← ht, List.take_take, Nat.min_eq_left h3]
/-- the holder that is open last -/
theorem OpenIs.top {base : Nat} {w : World} {v : Value} {h : Hold} {S : List Hold} (ho : OpenIs base w v (h :: S)) :
    ∃ g cap m, v = .slice (some ⟨g, 0, none⟩) (S.length + 1) cap ∧ S.length + 1 ≤ cap ∧ cap ≤ maxLen ∧ base ≤ g ∧ w.cell? ⟨g, S.length * 3, none⟩ = some (.int .i64 h.kind) ∧ w.cell? ⟨g, S.length * 3 + 1, none⟩ = some (.int .i64 h.fin) ∧ w.cell? ⟨g, S.length * 3 + 2, none⟩ = some m ∧ MapIs base w h m := by
  obtain ⟨ms, h1, h2, h3, h4⟩ := ho
  match ms, h1, h2, h3 with
  | m :: ms, h1, h2, h3 =>
    obtain ⟨g, cap, rfl, a1, a2, a3, a4⟩ := own_fits h2 (by simp)
    have hl : ms.reverse.length = S.reverse.length := by simpa using h1
    rw [List.reverse_cons, List.reverse_cons, holdVals_append _ _ _ _ hl, holdVals_one] at a4
    have hL : (holdVals S.reverse ms.reverse).length = S.length * 3 := by rw [holdVals_length _ _ hl, List.length_reverse]
    refine ⟨g, cap, m, rfl, a1, a2, a3, a4 _ _ ?_, a4 _ _ ?_, a4 _ _ ?_, h3 0 (by simp) (by simp)⟩
    · rw [List.getElem?_append_right (by omega), hL, Nat.sub_self]; rfl
    · rw [List.getElem?_append_right (by omega), hL, show S.length * 3 + 1 - S.length * 3 = 1 by omega]; rfl
    · rw [List.getElem?_append_right (by omega), hL, show S.length * 3 + 2 - S.length * 3 = 2 by omega]; rfl
theorem OpenIs.pop {base : Nat} {w : World} {g cap : Nat} {h : Hold} {S : List Hold} (ho : OpenIs base w (.slice (some ⟨g, 0, none⟩) (S.length + 1) cap) (h :: S)) : OpenIs base w (.slice (some ⟨g, 0, none⟩) S.length cap) S := by
  obtain ⟨ms, h1, h2, h3, h4⟩ := ho
  match ms, h1, h2, h3, h4 with
  | m :: ms, h1, h2, h3, h4 =>
    have hl : ms.reverse.length = S.reverse.length := by simpa using h1
    have hL : (holdVals S.reverse ms.reverse).length = S.length * 3 := by rw [holdVals_length _ _ hl, List.length_reverse]
    refine ⟨ms, by simpa using h1, ?_, fun i hi hi' => ?_, (List.pairwise_cons.1 h4).2⟩
    · have := own_less h2 (m := S.length) (by simp)
      rwa [List.reverse_cons, List.reverse_cons, holdVals_append _ _ _ _ hl, List.take_left' hL] at this
    · have := h3 (i + 1) (by simpa using hi) (by simpa using hi')
      simpa using this
theorem keys_apart {base : Nat} {w : World} {v : Value} {n : Nat} {xs : List Value} {T size b : Nat} {had : List ByteArray} (h : w.ownsRow base T size v n xs) (k : Keys w b had) : some b ≠ v.ownBlock := by
  intro e
  obtain ⟨cs, T', f, h1, _⟩ := own_block h b e.symm
  obtain ⟨D, ⟨es, clock, h2, _⟩, _⟩ := k
  rw [h1] at h2
  cases h2
/-- a key is put into the map of the holder that is open last -/
theorem OpenIs.put {base : Nat} {w w' : World} {v : Value} {h : Hold} {S : List Hold} {b : Nat} {k : ByteArray} (ho : OpenIs base w v (h :: S)) (hobj : h.obj = true) (hg : w.grownBy w' (some b)) (hk : Keys w' b (h.had ++ [k]))
    (hm : ∃ g cap, v = .slice (some ⟨g, 0, none⟩) (S.length + 1) cap ∧ w.cell? ⟨g, S.length * 3 + 2, none⟩ = some (.map (some b))) : OpenIs base w' v (h.add k :: S) := by
  obtain ⟨g, cap, rfl, hc⟩ := hm
  obtain ⟨g', cap', m', hv, _, _, _, _, _, hc', hm'⟩ := ho.top
  injection hv with e1 _ e3
  injection e1 with e1
  injection e1 with e1
  subst e1 e3
  rw [hc] at hc'
  injection hc' with hc'
  subst hc'
  obtain ⟨ms, h1, h2, h3, h4⟩ := ho
  have hadd : h.add k = ⟨h.obj, h.fin, h.had ++ [k]⟩ := by unfold Hold.add; rw [if_pos hobj]
  match ms, h1, h2, h3, h4 with
  | m :: ms, h1, h2, h3, h4 =>
    have hl : ms.reverse.length = S.reverse.length := by simpa using h1
    obtain ⟨g2, cap2, e, _, _, _, a4⟩ := own_fits h2 (by simp)
    injection e with e1 _ _
    injection e1 with e1
    injection e1 with e1
    subst e1
    have hL : (holdVals S.reverse ms.reverse).length = S.length * 3 := by rw [holdVals_length _ _ hl, List.length_reverse]
    have hmm : m = .map (some b) := by
      have := a4 (S.length * 3 + 2) m (by
        rw [List.reverse_cons, List.reverse_cons, holdVals_append _ _ _ _ hl, holdVals_one, List.getElem?_append_right (by omega), hL, show S.length * 3 + 2 - S.length * 3 = 2 by omega]; rfl)
      rw [hc] at this
      injection this with this
      exact this.symm
    subst hmm
    have hb : base ≤ b ∧ Keys w b h.had := by
      rcases h3 0 (by simp) (by simp) with ⟨e, _⟩ | ⟨b', e, r⟩
      · cases e
      · simp at e
        subst e
        exact r
    refine ⟨.map (some b) :: ms, by simpa using h1, ?_, fun i hi hi' => ?_, h4⟩
    · have e : holdVals (h.add k :: S).reverse (.map (some b) :: ms).reverse = holdVals (h :: S).reverse (.map (some b) :: ms).reverse := by
        rw [List.reverse_cons, List.reverse_cons, List.reverse_cons, holdVals_append _ _ _ _ hl, holdVals_append _ _ _ _ hl, hadd]
        rfl
      rw [e]
      exact h2.kept hg (.inr (Ne.symm (keys_apart h2 hb.2)))
    · cases i with
      | zero =>
        refine .inr ⟨b, rfl, hb.1, ?_⟩
        simp only [List.getElem_cons_zero]
        rw [hadd]
        exact hk
      | succ i =>
        have hi2 : i < ms.length := by simpa using hi'
        rcases h3 (i + 1) hi hi' with hx | ⟨b', e, r1, r2⟩
        · exact .inl hx
        · refine .inr ⟨b', e, r1, r2.grown hg ?_⟩
          intro eb
          injection eb with eb
          have := (List.pairwise_cons.1 h4).1 (ms[i]) (List.getElem_mem hi2) b rfl
          apply this
          simp only [List.getElem_cons_succ] at e
          rw [e, eb]

theorem holderInfo : (Tryd.prog.info? 82).map (fun i => (i.zero, i.size, i.bytes)) = some (some (.agg #[.int .i64 0, .int .i64 0, .map none]), 3, 24) := by kernel_rfl
theorem MapIs.apart {base b : Nat} {w : World} {h : Hold} (k : MapIs base w h (.map (some b))) : b < w.heap.size := by
  rcases k with ⟨e, _⟩ | ⟨b', e, _, r⟩
  · cases e
  · injection e with e
    injection e with e
    subst e
    exact r.lt
/-- a holder is opened: it has a new map -/
theorem step_push_hold {o : Oper} {a : Act} {K : Act → World → Prop} {Q : Exit → Act → World → Prop} (w0 w : World) (s x : Operand)
    (ho : o.op = .call { callee := .builtin .append, args := #[s, x], argTypes := #[83, 83] })
    (base : Nat) (v : Value) (S : List Hold) (hs : a.eval s = v) (hown : OpenIs base w0 v S) (hold : Old w0 w) (hd : Hold) (b g cap : Nat) (hb0 : base ≤ w0.heap.size) (hb : w0.heap.size ≤ b) (hk : Keys w b hd.had)
    (hx : a.eval x = .slice (some ⟨g, 0, none⟩) 1 cap) (h0 : w.cell? ⟨g, 0, none⟩ = some (.int .i64 hd.kind)) (h1 : w.cell? ⟨g, 1, none⟩ = some (.int .i64 hd.fin)) (h2 : w.cell? ⟨g, 2, none⟩ = some (.map (some b)))
    (hlen : S.length + 1 ≤ 4194304)
    (h : ∀ v' w', OpenIs base w' v' (hd :: S) → Below base w w' → K (a.put o.dst v') w') : o.wp Tryd.prog a w K Q := by
  obtain ⟨i0, hi, hz0, hz1, hz2⟩ := info_parts holderInfo
  obtain ⟨ms, e1, e2, e3, e4⟩ := hown
  have e2' := own_old e2 hold
  refine wp_append_own w s x 83 ho base 82 i0 (.agg #[.int .i64 0, .int .i64 0, .map none]) 3 24 Tryd.underlying83 hi hz0 hz1 hz2 rfl (by omega) v S.length (holdVals S.reverse ms.reverse) hs e2'
    ⟨g, 0, none⟩ 1 cap [.int .i64 hd.kind, .int .i64 hd.fin, .map (some b)] hx rfl ?_ ?_ (by unfold maxLen; omega) (by omega) (Nat.le_trans hb0 hold.size) ?_
  · intro j u hu
    match j, hu with
    | 0, hu => simp at hu; subst hu; exact h0
    | 1, hu => simp at hu; subst hu; simpa [Addr.add] using h1
    | 2, hu => simp at hu; subst hu; simpa [Addr.add] using h2
    | j + 3, hu => simp at hu
  · intro u hu
    simp at hu
    rcases hu with rfl | rfl | rfl <;> rfl
  · intro v' w' own' hg _
    have hl : ms.reverse.length = S.reverse.length := by simpa using e1
    refine h v' w' ⟨.map (some b) :: ms, by simp [e1], ?_, fun i hi hi' => ?_, List.pairwise_cons.2 ⟨fun m hm k hk => ?_, e4⟩⟩ (Kept.of_grown e2' hg (Nat.le_trans hb0 hold.size)).low
    · rw [List.reverse_cons, List.reverse_cons, holdVals_append _ _ _ _ hl, holdVals_one, List.length_cons]
      exact own'
    · cases i with
      | zero => exact .inr ⟨b, rfl, Nat.le_trans hb0 hb, hk.grown hg (keys_apart e2' hk)⟩
      | succ i =>
        have hi2 : i < S.length := by simpa using hi
        have hi3 : i < ms.length := by simpa using hi'
        rcases (e3 i hi2 hi3).old hold with hx | ⟨b', e, r1, r2⟩
        · exact .inl hx
        · exact .inr ⟨b', e, r1, r2.grown hg (keys_apart e2' r2)⟩
    · injection hk with hk
      injection hk with hk
      subst hk
      intro em
      obtain ⟨i, hi, rfl⟩ := List.getElem_of_mem hm
      have := e3 i (by omega) hi
      rw [em] at this
      have := this.apart
      omega
end Go.Proofs.YtkefhhnbkhijgaaDoor
