/- The lists and objects that are open, in memory: a row of structs that the call owns, with a map each; the reader's own block. -/
import Derived.Test.YtcddfpcapbdphaaGreatDoorValid
import Derived.Test.YtcddfpcapbdphaaGreatDoorMachL
import Derived.IntWalk
namespace Go.Proofs.YtcddfpcapbdphaaGreatDoor
open Go.RowKit

/-- .. as memory has one: its node's place, and the keys that were there -/
structure Jh where
  at_ : Nat
  had : List ByteArray
def jhVals : List Jh → List Value → List Value
  | h :: hs, m :: ms => .int .i64 (h.at_ : Int) :: m :: jhVals hs ms
  | _, _ => []
theorem jhVals_length : ∀ (hs : List Jh) (ms : List Value), ms.length = hs.length → (jhVals hs ms).length = hs.length * 2
  | [], [], _ => rfl
  | _ :: hs, _ :: ms, h => by simp only [jhVals, List.length_cons]; have := jhVals_length hs ms (by simpa using h); omega
theorem jhVals_append : ∀ (hs : List Jh) (ms : List Value) (hs' : List Jh) (ms' : List Value), ms.length = hs.length → jhVals (hs ++ hs') (ms ++ ms') = jhVals hs ms ++ jhVals hs' ms'
  | [], [], _, _, _ => rfl
  | h :: hs, m :: ms, hs', ms', e => by
    simp only [List.cons_append, jhVals]
    rw [jhVals_append hs ms hs' ms' (by simpa using e)]
theorem jhVals_one (h : Jh) (m : Value) : jhVals [h] [m] = [.int .i64 (h.at_ : Int), m] := rfl
def MapJ (base : Nat) (w : World) (h : Jh) (m : Value) : Prop := ∃ b, m = .map (some b) ∧ base ≤ b ∧ Keys w b h.had
def JOpen (base : Nat) (w : World) (v : Value) (S : List Jh) : Prop :=
  ∃ ms : List Value, ms.length = S.length ∧ w.ownsRow base 84 2 v S.length (jhVals S.reverse ms.reverse) ∧ (∀ i, (h : i < S.length) → (h' : i < ms.length) → MapJ base w S[i] ms[i]) ∧ Apart ms
theorem MapJ.old {base : Nat} {w w' : World} {h : Jh} {m : Value} (k : MapJ base w h m) (ho : Old w w') : MapJ base w' h m := by
  obtain ⟨b, h1, h2, h3⟩ := k
  exact ⟨b, h1, h2, h3.old ho⟩
theorem JOpen.old {base : Nat} {w w' : World} {v : Value} {S : List Jh} (h : JOpen base w v S) (ho : Old w w') : JOpen base w' v S := by
  obtain ⟨ms, h1, h2, h3, h4⟩ := h
  exact ⟨ms, h1, own_old h2 ho, fun i hi hi' => (h3 i hi hi').old ho, h4⟩
theorem JOpen.nil_ (base : Nat) (w : World) : JOpen base w (.slice none 0 0) [] := ⟨[], rfl, ⟨by simp [jhVals], .inl ⟨rfl, rfl⟩⟩, fun i h => absurd h (by simp), by simp [Apart]⟩
theorem JOpen.form {base : Nat} {w : World} {v : Value} {S : List Jh} (h : JOpen base w v S) : ∃ A cap, v = .slice A S.length cap ∧ S.length ≤ cap ∧ cap ≤ maxLen := by
  obtain ⟨ms, h1, h2, h3, h4⟩ := h
  obtain ⟨A, cap, rfl, a, b, _⟩ := SlT.of_own h2
  exact ⟨A, cap, rfl, a, b⟩
theorem JOpen.top {base : Nat} {w : World} {v : Value} {h : Jh} {S : List Jh} (ho : JOpen base w v (h :: S)) :
    ∃ g cap b, v = .slice (some ⟨g, 0, none⟩) (S.length + 1) cap ∧ S.length + 1 ≤ cap ∧ cap ≤ maxLen ∧ base ≤ g ∧ w.cell? ⟨g, S.length * 2, none⟩ = some (.int .i64 (h.at_ : Int)) ∧ w.cell? ⟨g, S.length * 2 + 1, none⟩ = some (.map (some b)) ∧ base ≤ b ∧ Keys w b h.had := by
  obtain ⟨ms, h1, h2, h3, h4⟩ := ho
  match ms, h1, h2, h3 with
  | m :: ms, h1, h2, h3 =>
    obtain ⟨g, cap, rfl, a1, a2, a3, a4⟩ := own_fits h2 (by simp)
    have hl : ms.reverse.length = S.reverse.length := by simpa using h1
    rw [List.reverse_cons, List.reverse_cons, jhVals_append _ _ _ _ hl, jhVals_one] at a4
    have hL : (jhVals S.reverse ms.reverse).length = S.length * 2 := by rw [jhVals_length _ _ hl, List.length_reverse]
    obtain ⟨b, hb, b1, b2⟩ := h3 0 (by simp) (by simp)
    have hb' : m = .map (some b) := hb
    subst hb'
    refine ⟨g, cap, b, rfl, a1, a2, a3, a4 _ _ ?_, a4 _ _ ?_, b1, b2⟩
    · rw [List.getElem?_append_right (by omega), hL, Nat.sub_self]; rfl
    · rw [List.getElem?_append_right (by omega), hL, show S.length * 2 + 1 - S.length * 2 = 1 by omega]; rfl
theorem JOpen.pop {base : Nat} {w : World} {g cap : Nat} {h : Jh} {S : List Jh} (ho : JOpen base w (.slice (some ⟨g, 0, none⟩) (S.length + 1) cap) (h :: S)) : JOpen base w (.slice (some ⟨g, 0, none⟩) S.length cap) S := by
  obtain ⟨ms, h1, h2, h3, h4⟩ := ho
  match ms, h1, h2, h3, h4 with
  | m :: ms, h1, h2, h3, h4 =>
    have hl : ms.reverse.length = S.reverse.length := by simpa using h1
    have hL : (jhVals S.reverse ms.reverse).length = S.length * 2 := by rw [jhVals_length _ _ hl, List.length_reverse]
    refine ⟨ms, by simpa using h1, ?_, fun i hi hi' => ?_, (List.pairwise_cons.1 h4).2⟩
    · have := own_less h2 (m := S.length) (by simp)
      rwa [List.reverse_cons, List.reverse_cons, jhVals_append _ _ _ _ hl, List.take_left' hL] at this
    · have := h3 (i + 1) (by simpa using hi) (by simpa using hi')
      simpa using this
/-- a key is put into the map of the one that is open last -/
theorem JOpen.put {base : Nat} {w w' : World} {v : Value} {h : Jh} {S : List Jh} {b : Nat} {k : ByteArray} (ho : JOpen base w v (h :: S)) (hg : w.grownBy w' (some b)) (hk : Keys w' b (h.had ++ [k]))
    (hm : ∃ g cap, v = .slice (some ⟨g, 0, none⟩) (S.length + 1) cap ∧ w.cell? ⟨g, S.length * 2 + 1, none⟩ = some (.map (some b))) : JOpen base w' v (⟨h.at_, h.had ++ [k]⟩ :: S) := by
  obtain ⟨g, cap, rfl, hc⟩ := hm
  obtain ⟨ms, h1, h2, h3, h4⟩ := ho
  match ms, h1, h2, h3, h4 with
  | m :: ms, h1, h2, h3, h4 =>
    have hl : ms.reverse.length = S.reverse.length := by simpa using h1
    obtain ⟨g2, cap2, e, _, _, _, a4⟩ := own_fits h2 (by simp)
    injection e with e1 _ _
    injection e1 with e1
    injection e1 with e1
    subst e1
    have hL : (jhVals S.reverse ms.reverse).length = S.length * 2 := by rw [jhVals_length _ _ hl, List.length_reverse]
    have hmm : m = .map (some b) := by
      have := a4 (S.length * 2 + 1) m (by
        rw [List.reverse_cons, List.reverse_cons, jhVals_append _ _ _ _ hl, jhVals_one, List.getElem?_append_right (by omega), hL, show S.length * 2 + 1 - S.length * 2 = 1 by omega]; rfl)
      rw [hc] at this
      injection this with this
      exact this.symm
    subst hmm
    have hb : base ≤ b ∧ Keys w b h.had := by
      obtain ⟨b', e, r⟩ := h3 0 (by simp) (by simp)
      simp at e
      subst e
      exact r
    refine ⟨.map (some b) :: ms, by simpa using h1, ?_, fun i hi hi' => ?_, h4⟩
    · have e : jhVals ((⟨h.at_, h.had ++ [k]⟩ : Jh) :: S).reverse (.map (some b) :: ms).reverse = jhVals (h :: S).reverse (.map (some b) :: ms).reverse := by
        rw [List.reverse_cons, List.reverse_cons, List.reverse_cons, jhVals_append _ _ _ _ hl, jhVals_append _ _ _ _ hl]
        rfl
      rw [e]
      exact h2.kept hg (.inr (Ne.symm (keys_apart h2 hb.2)))
    · cases i with
      | zero => exact ⟨b, rfl, hb.1, hk⟩
      | succ i =>
        have hi2 : i < ms.length := by simpa using hi'
        obtain ⟨b', e, r1, r2⟩ := h3 (i + 1) hi hi'
        refine ⟨b', e, r1, r2.grown hg ?_⟩
        intro eb
        injection eb with eb
        have := (List.pairwise_cons.1 h4).1 (ms[i]) (List.getElem_mem hi2) b rfl
        apply this
        simp only [List.getElem_cons_succ] at e
        rw [e, eb]
theorem jhInfo : (Tryz.prog.info? 84).map (fun i => (i.zero, i.size, i.bytes)) = some (some (.agg #[.int .i64 0, .map none]), 2, 16) := by kernel_rfl
theorem MapJ.apart {base b : Nat} {w : World} {h : Jh} (k : MapJ base w h (.map (some b))) : b < w.heap.size := by
  obtain ⟨b', e, _, r⟩ := k
  injection e with e
  injection e with e
  subst e
  exact r.lt
/-- what an append to a row leaves: maps, and blocks of other types -/
structure KeptJ (T base : Nat) (w w' : World) : Prop where
  kept : Kept T base w w'
  maps : ∀ (b : Nat) (es : Array MapEntry) (c : Nat), w.heap[b]? = some (.map es c) → w'.heap[b]? = some (.map es c)
theorem KeptJ.of_grown {T base size n : Nat} {w w' : World} {v : Value} {xs : List Value} (h : w.ownsRow base T size v n xs) (hg : w.grownBy w' v.ownBlock) (hb : base ≤ w.heap.size) : KeptJ T base w w' where
  kept := Kept.of_grown h hg hb
  maps := by
    intro b es c hh
    rw [hg.block b (block_lt hh) ?_]
    · exact hh
    · intro e
      obtain ⟨cs', T'', f', hh', hT⟩ := own_block h b e.symm
      rw [hh] at hh'
      cases hh'
theorem Keys.keptJ {T base b : Nat} {w w' : World} {had : List ByteArray} (h : Keys w b had) (k : KeptJ T base w w') : Keys w' b had := by
  obtain ⟨D, ⟨es, clock, h2, r⟩, q⟩ := h
  exact ⟨D, ⟨es, clock, k.maps _ _ _ h2, r⟩, q⟩
theorem JOpen.keptJ {T base base' : Nat} {w w' : World} {v : Value} {S : List Jh} (h : JOpen base w v S) (k : KeptJ T base' w w') (hne : 84 ≠ T) : JOpen base w' v S := by
  obtain ⟨ms, h1, h2, h3, h4⟩ := h
  refine ⟨ms, h1, ?_, fun i hi hi' => ?_, h4⟩
  · obtain ⟨hl, h2⟩ := h2
    refine ⟨hl, ?_⟩
    rcases h2 with h2 | ⟨g, cap, cur, rfl, hb, hh, r⟩
    · exact .inl h2
    · exact .inr ⟨g, cap, cur, rfl, hb, k.kept.other _ _ _ _ hh hne, r⟩
  · obtain ⟨b, e, r1, r2⟩ := h3 i hi hi'
    exact ⟨b, e, r1, r2.keptJ k⟩
/-- one is opened: it has a new map -/
theorem step_push_jh {o : Oper} {a : Act} {K : Act → World → Prop} {Q : Exit → Act → World → Prop} (w0 w : World) (s x : Operand)
    (ho : o.op = .call { callee := .builtin .append, args := #[s, x], argTypes := #[46, 46] })
    (base : Nat) (v : Value) (S : List Jh) (hs : a.eval s = v) (hown : JOpen base w0 v S) (hold : Old w0 w) (hd : Jh) (b g cap : Nat) (hb0 : base ≤ w0.heap.size) (hb : w0.heap.size ≤ b) (hk : Keys w b hd.had)
    (hx : a.eval x = .slice (some ⟨g, 0, none⟩) 1 cap) (h0 : w.cell? ⟨g, 0, none⟩ = some (.int .i64 (hd.at_ : Int))) (h1 : w.cell? ⟨g, 1, none⟩ = some (.map (some b)))
    (hlen : S.length + 1 ≤ 4194304)
    (h : ∀ v' w', JOpen base w' v' (hd :: S) → KeptJ 84 base w w' → K (a.put o.dst v') w') : o.wp Tryz.prog a w K Q := by
  obtain ⟨i0, hi, hz0, hz1, hz2⟩ := info_parts jhInfo
  obtain ⟨ms, e1, e2, e3, e4⟩ := hown
  have e2' := own_old e2 hold
  refine wp_append_own w s x 46 ho base 84 i0 (.agg #[.int .i64 0, .map none]) 2 16 Tryz.underlying46 hi hz0 hz1 hz2 rfl (by omega) v S.length (jhVals S.reverse ms.reverse) hs e2'
    ⟨g, 0, none⟩ 1 cap [.int .i64 (hd.at_ : Int), .map (some b)] hx rfl ?_ ?_ (by unfold maxLen; omega) (by omega) (Nat.le_trans hb0 hold.size) ?_
  · intro j u hu
    match j, hu with
    | 0, hu => simp at hu; subst hu; exact h0
    | 1, hu => simp at hu; subst hu; simpa [Addr.add] using h1
    | j + 2, hu => simp at hu
  · intro u hu
    simp at hu
    rcases hu with rfl | rfl <;> rfl
  · intro v' w' own' hg _
    have hl : ms.reverse.length = S.reverse.length := by simpa using e1
    refine h v' w' ⟨.map (some b) :: ms, by simp [e1], ?_, fun i hi hi' => ?_, List.pairwise_cons.2 ⟨fun m hm k hk => ?_, e4⟩⟩ (KeptJ.of_grown e2' hg (Nat.le_trans hb0 hold.size))
    · rw [List.reverse_cons, List.reverse_cons, jhVals_append _ _ _ _ hl, jhVals_one, List.length_cons]
      exact own'
    · cases i with
      | zero => exact ⟨b, rfl, Nat.le_trans hb0 hb, hk.grown hg (keys_apart e2' hk)⟩
      | succ i =>
        have hi2 : i < S.length := by simpa using hi
        have hi3 : i < ms.length := by simpa using hi'
        obtain ⟨b', e, r1, r2⟩ := (e3 i hi2 hi3).old hold
        exact ⟨b', e, r1, r2.grown hg (keys_apart e2' r2)⟩
    · injection hk with hk
      injection hk with hk
      subst hk
      intro em
      obtain ⟨i, hi, rfl⟩ := List.getElem_of_mem hm
      have := e3 i (by omega) hi
      rw [em] at this
      have := this.apart
      omega
end Go.Proofs.YtcddfpcapbdphaaGreatDoor

