/-  -/
import Derived.Test.YthlfljmfggmfdaaGreatDoorQk35
import Derived.Test.YthlfljmfggmfdaaGreatDoorQk36
import Derived.Test.YthlfljmfggmfdaaGreatDoorQk37
import Derived.WalkMore
/-! ###  -/
namespace Go.Proofs.YthlfljmfggmfdaaGreatDoor
def outN (σ : St) : List Nd :=
 match σ.done with
 | some j => j.flat
 | none => outF σ.open_
def heldF : List Fr → List Jh
 | [] => []
 | F :: S => ⟨(outF S).length, F.had⟩ :: heldF S
theorem heldF_len : ∀ S : List Fr, (heldF S).length = S.length
 | [] => rfl
 | _ :: S => by simp only [heldF, List.length_cons]; rw [heldF_len S]
def wantN : Want → Int
 | .value => 0 | .first => 1 | .member => 2 | .opened => 3 | .behind => 4
def rankW : Want → Nat
 | .first => 1 | .opened => 1 | _ => 0
structure PInv (L : Nat) (σ : St) : Prop where
 len : σ.rest.length ≤ L
 small : σ.open_.length ≤ 64
 nodes : (outN σ).length ≤ 4000
 hads : ∀ F ∈ σ.open_, F.had.length + σ.rest.length ≤ L
 keys : σ.want ≠ .value → σ.key = none_
 done : σ.done = none ∨ (σ.open_ = [] ∧ σ.want = .behind)
 top : (σ.want = .first → ∃ F S, σ.open_ = F :: S ∧ F.obj = false) ∧ (σ.want = .opened ∨ σ.want = .member → ∃ F S, σ.open_ = F :: S ∧ F.obj = true) ∧ (σ.want = .behind → σ.open_ = [] → ∃ j, σ.done = some j)
theorem outN_put (key : ByteArray) (j : J) (S : List Fr) (r : List UInt8) : outN (putJ key j S r) = outF S ++ (j.rekey key).flat := by
 cases S with
 | nil => simp [putJ, outN, outF]
 | cons F S => simp [putJ, outN, outF, flats_append, flats_one]
theorem heldF_put (key : ByteArray) (j : J) (S : List Fr) (r : List UInt8) : heldF (putJ key j S r).open_ = heldF S := by
 cases S with
 | nil => rfl
 | cons F S => rfl
theorem put_want (key : ByteArray) (j : J) (S : List Fr) (r : List UInt8) : (putJ key j S r).want = .behind ∧ (putJ key j S r).key = none_ ∧ (putJ key j S r).rest = r := by
 cases S <;> exact ⟨rfl, rfl, rfl⟩
theorem outN_leave (F : Fr) (S : List Fr) (r : List UInt8) : outN (leaveS (F :: S) r) = outF S ++ endNd ⟨kindOf F.obj, F.key, 0, none_, 1⟩ (J.flats F.kids) :: J.flats F.kids := by
 simp only [leaveS]
 rw [outN_put]
 simp only [J.rekey, flat_mk, endNd]
 rw [show (((J.flats F.kids).length + 1 : Nat) : Int) = ((J.flats F.kids).length : Int) + 1 by omega]
theorem heldF_leave (F : Fr) (S : List Fr) (r : List UInt8) : heldF (leaveS (F :: S) r).open_ = heldF S := by
 simp only [leaveS]
 exact heldF_put ..
theorem pinv_put {L : Nat} {key : ByteArray} {j : J} {S : List Fr} {r : List UInt8} (h1 : S.length ≤ 64) (h2 : (outF S ++ (j.rekey key).flat).length ≤ 4000) (h3 : ∀ F ∈ S, F.had.length + r.length ≤ L) (h0 : r.length ≤ L) : PInv L (putJ key j S r) := by
 have e := outN_put key j S r
 cases S with
 | nil =>
   refine ⟨by simpa [putJ] using h0, by simp [putJ], by rw [e]; exact h2, by simp [putJ], fun _ => rfl, .inr ⟨rfl, rfl⟩, ?_, ?_, ?_⟩
   · intro h; cases h
   · rintro (h | h) <;> cases h
   · intro _ _; exact ⟨_, rfl⟩
 | cons F S =>
   refine ⟨by simpa [putJ] using h0, by simpa [putJ] using h1, by rw [e]; exact h2, fun G hG => ?_, fun _ => rfl, .inl rfl, ?_, ?_, ?_⟩
   · simp only [putJ] at hG ⊢
     rcases List.mem_cons.1 hG with rfl | hG
     · exact h3 F (List.mem_cons_self ..)
     · exact h3 G (List.mem_cons_of_mem _ hG)
   · intro h; cases h
   · rintro (h | h) <;> cases h
   · intro _ h; cases h
theorem outN_open {σ : St} {L : Nat} (h : PInv L σ) (ho : σ.open_ ≠ [] ∨ σ.want ≠ .behind) : outN σ = outF σ.open_ ∧ σ.done = none := by
 have hd : σ.done = none := by
  rcases h.done with hd | ⟨h1, h2⟩
  · exact hd
  · rcases ho with ho | ho
    · exact absurd h1 ho
    · exact absurd h2 ho
 unfold outN
 rw [hd]
 exact ⟨rfl, rfl⟩
theorem pinv_leave {L : Nat} {F : Fr} {S : List Fr} {r : List UInt8} {x : List UInt8} (h1 : (F :: S).length ≤ 64) (h2 : (outF (F :: S)).length ≤ 4000) (h3 : ∀ G ∈ F :: S, G.had.length + x.length ≤ L) (hr : r.length ≤ x.length) (hx : x.length ≤ L) : PInv L (leaveS (F :: S) r) := by
 simp only [leaveS]
 refine pinv_put (by simp only [List.length_cons] at h1; omega) ?_ (fun G hG => ?_) ?_
 · simp only [outF, List.length_append, List.length_cons, J.rekey, flat_mk] at h2 ⊢
   omega
 · have := h3 G (List.mem_cons_of_mem _ hG)
   omega
 · omega
theorem pinv_0 (l : List UInt8) (L : Nat) (h : l.length ≤ L) : PInv L (st0 l) := by
 refine ⟨by simpa [st0] using h, by simp [st0], by simp [st0, outN, outF], by simp [st0], fun h => absurd rfl h, .inl rfl, ?_, ?_, ?_⟩
 · intro h; cases h
 · rintro (h | h) <;> cases h
 · intro h; cases h
theorem pinv_step {L : Nat} {σ τ : St} (h : PInv L σ) (e : stepS σ = .inl τ) : PInv L τ ∧ 2 * τ.rest.length + rankW τ.want < 2 * σ.rest.length + rankW σ.want := by
 obtain ⟨want, key, S, done, rest⟩ := σ
 have hL : rest.length ≤ L := h.len
 have hsk := skipB_len rest
 cases want with
 | value =>
   have ho := outN_open h (.inr (by simp))
   have h2 := h.nodes
   rw [ho.1] at h2
   simp only at h2
   simp only [stepS] at e
   split at e
   · cases e
   rename_i c r hs
   rw [hs] at hsk
   simp only [List.length_cons] at hsk
   split at e
   · cases e
   split at e
   · cases e
   rename_i hn
   split at e
   · cases e
   rename_i hd
   split at e
   · injection e with e
     subst e
     refine ⟨⟨by simp only; omega, by simp only [List.length_cons]; omega, ?_, fun F hF => ?_, fun _ => rfl, .inl rfl, ?_, ?_, ?_⟩, ?_⟩
     · simp only [outN, outF, J.flats, List.length_append, List.length_cons, List.length_nil]
       omega
     · simp only at hF ⊢
       rcases List.mem_cons.1 hF with rfl | hF
       · simp only [List.length_nil]
         omega
       · have := h.hads F hF
         simp only at this
         omega
     · intro hw
       refine ⟨_, _, rfl, ?_⟩
       simp only at hw ⊢
       cases hc : (c == 123)
       · rfl
       · rw [hc] at hw; simp at hw
     · intro hw
       refine ⟨_, _, rfl, ?_⟩
       simp only at hw ⊢
       cases hc : (c == 123)
       · rw [hc] at hw; simp at hw
       · rfl
     · intro hw
       simp only at hw
       split at hw <;> cases hw
     · simp only
       have : rankW (if (c == 123) = true then Want.opened else Want.first) = 1 := by split <;> rfl
       rw [this]
       simp only [rankW]
       omega
   · split at e
     · cases e
     · rename_i j r2 hl
       injection e with e
       subst e
       have hless := leafV_less hl
       simp only [List.length_cons] at hless
       obtain ⟨w1, w2, w3⟩ := put_want key j S r2
       refine ⟨pinv_put h.small ?_ (fun F hF => ?_) (by omega), ?_⟩
       · rw [List.length_append, rekey_len]
         omega
       · have := h.hads F hF
         simp only at this
         omega
       · rw [w1, w3]
         simp only [rankW]
         omega
 | first =>
   obtain ⟨F, T, hS, hobj⟩ := h.top.1 rfl
   simp only at hS
   subst hS
   have ho := outN_open h (.inr (by simp))
   have h2 := h.nodes
   rw [ho.1] at h2
   simp only at h2
   simp only [stepS] at e
   split at e
   · rename_i r he
     injection e with e
     subst e
     have hx := opt1_yes he
     have hlen := congrArg List.length hx
     simp only [List.length_cons] at hlen
     refine ⟨pinv_leave h.small h2 h.hads (by simp only; omega) hL, ?_⟩
     obtain ⟨w1, w2, w3⟩ := put_want F.key (.mk ⟨kindOf F.obj, none_, 0, none_⟩ F.kids) T r
     simp only [leaveS]
     rw [w1, w3]
     simp only [rankW]
     omega
   · rename_i r he
     injection e with e
     subst e
     have hx := opt1_no he
     have hlx := congrArg List.length hx
     refine ⟨⟨by simp only; omega, h.small, by simpa [outN] using h2, fun G hG => ?_, fun k => absurd rfl k, .inl rfl, ?_, ?_, ?_⟩, ?_⟩
     · have := h.hads G hG
       simp only at this ⊢
       rw [← hx]
       omega
     · intro hw; cases hw
     · rintro (hw | hw) <;> cases hw
     · intro hw; cases hw
     · simp only [rankW]
       rw [← hx]
       omega
 | opened =>
   obtain ⟨F, T, hS, hobj⟩ := h.top.2.1 (.inl rfl)
   simp only at hS
   subst hS
   have ho := outN_open h (.inr (by simp))
   have h2 := h.nodes
   rw [ho.1] at h2
   simp only at h2
   simp only [stepS] at e
   split at e
   · rename_i r he
     injection e with e
     subst e
     have hx := opt1_yes he
     have hlen := congrArg List.length hx
     simp only [List.length_cons] at hlen
     refine ⟨pinv_leave h.small h2 h.hads (by simp only; omega) hL, ?_⟩
     obtain ⟨w1, w2, w3⟩ := put_want F.key (.mk ⟨kindOf F.obj, none_, 0, none_⟩ F.kids) T r
     simp only [leaveS]
     rw [w1, w3]
     simp only [rankW]
     omega
   · rename_i r he
     injection e with e
     subst e
     have hx := opt1_no he
     have hlx := congrArg List.length hx
     refine ⟨⟨by simp only; omega, h.small, by simpa [outN] using h2, fun G hG => ?_, fun k => rfl, .inl rfl, ?_, ?_, ?_⟩, ?_⟩
     · have := h.hads G hG
       simp only at this ⊢
       rw [← hx]
       omega
     · intro hw; cases hw
     · intro hw; exact ⟨F, T, rfl, hobj⟩
     · intro hw; cases hw
     · simp only [rankW]
       rw [← hx]
       omega
 | member =>
   obtain ⟨F, T, hS, hobj⟩ := h.top.2.1 (.inr rfl)
   simp only at hS
   subst hS
   have ho := outN_open h (.inr (by simp))
   have h2 := h.nodes
   rw [ho.1] at h2
   simp only at h2
   simp only [stepS] at e
   split at e
   · cases e
   · rename_i k r hk
     injection e with e
     subst e
     have hless : r.length < rest.length := by
      rw [keyM_eq] at hk
      unfold keyM at hk
      split at hk
      · cases hk
      rename_i t r1 h1
      have a1 := litV_less h1
      split at hk
      · cases hk
      split at hk
      · cases hk
      rename_i r2 h3
      injection hk with hk; injection hk with _ hk; subst hk
      have a2 := wordV_less h3
      have a3 := skipB_len r1
      simp only [List.length_cons, List.length_nil] at a2
      omega
     refine ⟨⟨by simp only; omega, by simpa using h.small, by simpa [outN, outF] using h2, fun G hG => ?_, fun k => absurd rfl k, .inl rfl, ?_, ?_, ?_⟩, ?_⟩
     · simp only at hG ⊢
       rcases List.mem_cons.1 hG with rfl | hG
       · have := h.hads F (List.mem_cons_self ..)
         simp only [List.length_append, List.length_cons, List.length_nil] at this ⊢
         omega
       · have := h.hads G (List.mem_cons_of_mem _ hG)
         simp only at this
         omega
     · intro hw; cases hw
     · rintro (hw | hw) <;> cases hw
     · intro hw; cases hw
     · simp only [rankW]
       omega
 | behind =>
   cases S with
   | nil =>
     simp only [stepS] at e
     split at e
     · cases e
     · split at e <;> cases e
   | cons F T =>
     have ho := outN_open h (.inl (by simp))
     have h2 := h.nodes
     rw [ho.1] at h2
     simp only at h2
     simp only [stepS] at e
     split at e
     · cases e
     · rename_i r hm
       injection e with e
       subst e
       have hless := moreV_less hm
       refine ⟨⟨by simp only; omega, h.small, by simpa [outN] using h2, fun G hG => ?_, fun k => rfl, .inl rfl, ?_, ?_, ?_⟩, ?_⟩
       · have := h.hads G hG
         simp only at this ⊢
         omega
       · intro hw
         simp only at hw
         split at hw <;> cases hw
       · intro hw
         refine ⟨F, T, rfl, ?_⟩
         simp only at hw
         cases hob : F.obj
         · rw [hob] at hw; simp at hw
         · rfl
       · intro hw
         simp only at hw
         split at hw <;> cases hw
       · simp only
         have : rankW (if F.obj = true then Want.member else Want.value) = 0 := by split <;> rfl
         rw [this]
         simp only [rankW]
         omega
     · rename_i r hm
       injection e with e
       subst e
       have hless := moreV_less hm
       refine ⟨pinv_leave h.small h2 h.hads (by simp only; omega) hL, ?_⟩
       obtain ⟨w1, w2, w3⟩ := put_want F.key (.mk ⟨kindOf F.obj, none_, 0, none_⟩ F.kids) T r
       simp only [leaveS]
       rw [w1, w3]
       simp only [rankW]
       omega
end Go.Proofs.YthlfljmfggmfdaaGreatDoor
namespace Go.Proofs.YthlfljmfggmfdaaGreatDoor
open Go.RowKit
def PGo (base rb : Nat) (s : ByteArray) (σ : St) (iv sv : Value) (wr : World) : Prop :=
 (∃ (τ : St) (n : Nat), stepS σ = .inl τ ∧ iv = .bool true ∧ sv = .int .i64 (wantN τ.want) ∧ JAt s n τ.rest ∧ JR base rb s n (outN τ) (heldF τ.open_) τ.key 0 0 wr) ∨ (iv = .bool false ∧ (∃ z : Int, sv = .int .i64 z) ∧ ∃ b, stepS σ = .inr (.error b) ∧ JNoW rb s b wr)
def PRel (base rb : Nat) (s : ByteArray) (iv sv : Value) (wr : World) : Prop :=
 (∃ (σ : St) (n : Nat), iv = .bool true ∧ sv = .int .i64 (wantN σ.want) ∧ PInv s.size σ ∧ Steps (st0 s.data.toList) σ ∧ JAt s n σ.rest ∧ JR base rb s n (outN σ) (heldF σ.open_) σ.key 0 0 wr) ∨ (iv = .bool false ∧ (∃ z : Int, sv = .int .i64 z) ∧ ∃ b, Ends (st0 s.data.toList) (.error b) ∧ JNoW rb s b wr)
def pMeas (rb : Nat) (s : ByteArray) (iv sv : Value) (wr : World) : Nat :=
 match iv with
 | .bool true => 2 * jLeft rb s wr + (match sv with | .int _ 1 => 1 | .int _ 3 => 1 | _ => 0) + 1
 | _ => 0
theorem pMeas_on {base rb n : Nat} {s : ByteArray} {σ : St} {wr : World} (ha : JAt s n σ.rest) (hj : JR base rb s n (outN σ) (heldF σ.open_) σ.key 0 0 wr) : pMeas rb s (.bool true) (.int .i64 (wantN σ.want)) wr = 2 * (σ.rest.length + 1) + rankW σ.want + 1 := by
 have h1 := hj.left
 have h2 := ha.len
 unfold pMeas
 rw [h1]
 have e : (match (Value.int IntKind.i64 (wantN σ.want)) with | .int _ 1 => 1 | .int _ 3 => 1 | _ => 0) = rankW σ.want := by cases σ.want <;> rfl
 simp only
 rw [e]
 omega
theorem pgo_rel {base rb n : Nat} {s : ByteArray} {σ : St} {iv sv : Value} {wr w0 : World} (h : PGo base rb s σ iv sv wr) (hi : PInv s.size σ) (hs : Steps (st0 s.data.toList) σ) (ha : JAt s n σ.rest) (hj : JR base rb s n (outN σ) (heldF σ.open_) σ.key 0 0 w0) :
 PRel base rb s iv sv wr ∧ pMeas rb s iv sv wr < pMeas rb s (.bool true) (.int .i64 (wantN σ.want)) w0 := by
 rw [pMeas_on ha hj]
 rcases h with ⟨τ, m, h1, rfl, rfl, h4, h5⟩ | ⟨rfl, h2, b, h3, h4⟩
 · obtain ⟨k1, k2⟩ := pinv_step hi h1
   refine ⟨.inl ⟨τ, m, rfl, rfl, k1, hs.step h1, h4, h5⟩, ?_⟩
   rw [pMeas_on h4 h5]
   omega
 · refine ⟨.inr ⟨rfl, h2, b, ⟨σ, hs, h3⟩, h4⟩, ?_⟩
   unfold pMeas
   simp only
   omega
theorem beg_go {base rb : Nat} {s key : ByteArray} {S : List Fr} {rest : List UInt8} {y : Ending} {w' : World} (h : JBeg base rb s (outF S) (heldF S) key 0 0 (skipB rest) y w') :
 ∃ (z : Int) (B : Bool), y = .returned (.tuple #[.int .i64 z, .bool B]) ∧ PGo base rb s ⟨.value, key, S, none, rest⟩ (.bool B) (.int .i64 z) w' := by
 have hl := heldF_len S
 cases hq : skipB rest with
 | nil =>
   rw [hq] at h
   obtain ⟨⟨z, rfl⟩, h2⟩ := h
   exact ⟨z, false, rfl, .inr ⟨rfl, ⟨z, rfl⟩, _, by simp only [stepS, hq], h2⟩⟩
 | cons c r =>
   rw [hq] at h
   simp only [JBeg] at h
   by_cases h1 : begB c = false
   · rw [if_pos h1] at h
     obtain ⟨⟨z, rfl⟩, h2⟩ := h
     exact ⟨z, false, rfl, .inr ⟨rfl, ⟨z, rfl⟩, _, by simp only [stepS, hq]; rw [if_pos h1], h2⟩⟩
   rw [if_neg h1] at h
   by_cases h2 : 4000 ≤ (outF S).length
   · rw [if_pos h2] at h
     obtain ⟨⟨z, rfl⟩, h3⟩ := h
     exact ⟨z, false, rfl, .inr ⟨rfl, ⟨z, rfl⟩, _, by simp only [stepS, hq]; rw [if_neg h1, if_pos h2], h3⟩⟩
   rw [if_neg h2] at h
   by_cases h3 : 64 ≤ S.length
   · rw [if_pos (by omega)] at h
     obtain ⟨⟨z, rfl⟩, h4⟩ := h
     exact ⟨z, false, rfl, .inr ⟨rfl, ⟨z, rfl⟩, _, by simp only [stepS, hq]; rw [if_neg h1, if_neg h2, if_pos h3], h4⟩⟩
   rw [if_neg (by omega)] at h
   by_cases h4 : c = 91 ∨ c = 123
   · rw [if_pos h4] at h
     obtain ⟨rfl, m, a1, a2⟩ := h
     refine ⟨_, true, rfl, .inl ⟨⟨if c == 123 then .opened else .first, none_, ⟨c == 123, key, [], []⟩ :: S, none, r⟩, m, by simp only [stepS, hq]; rw [if_neg h1, if_neg h2, if_neg h3, if_pos h4], rfl, ?_, a1, ?_⟩⟩
     · rcases h4 with rfl | rfl <;> rfl
     · simpa [outN, outF, heldF, J.flats] using a2
   · rw [if_neg h4] at h
     cases hx : leafV c (c :: r) with
     | error b =>
       rw [hx] at h
       obtain ⟨⟨z, rfl⟩, h5⟩ := h
       exact ⟨z, false, rfl, .inr ⟨rfl, ⟨z, rfl⟩, _, by simp only [stepS, hq]; rw [if_neg h1, if_neg h2, if_neg h3, if_neg h4, hx], h5⟩⟩
     | ok x =>
       obtain ⟨j, r2⟩ := x
       rw [hx] at h
       obtain ⟨rfl, m, a1, a2⟩ := h
       obtain ⟨w1, w2, w3⟩ := put_want key j S r2
       refine ⟨4, true, rfl, .inl ⟨putJ key j S r2, m, by simp only [stepS, hq]; rw [if_neg h1, if_neg h2, if_neg h3, if_neg h4, hx], rfl, by rw [w1]; rfl, by rw [w3]; exact a1, ?_⟩⟩
       rw [outN_put, heldF_put, w2]
       exact a2
theorem mem_go {base rb : Nat} {s : ByteArray} {F : Fr} {S : List Fr} {key : ByteArray} {rest : List UInt8} {y : Ending} {w' : World} (h : JMem base rb s (outF (F :: S)) (outF S).length F.had (heldF S) 0 0 (keyM F.had (skipB rest)) y w') :
 ∃ B : Bool, y = .returned (.bool B) ∧ PGo base rb s ⟨.member, key, F :: S, none, rest⟩ (.bool B) (.int .i64 0) w' := by
 rw [← keyM_eq] at h
 cases hk : keyV true F.had rest with
 | error b =>
   rw [hk] at h
   obtain ⟨rfl, h2⟩ := h
   exact ⟨false, rfl, .inr ⟨rfl, ⟨0, rfl⟩, b, by simp only [stepS, hk], h2.weak⟩⟩
 | ok x =>
   obtain ⟨k, r⟩ := x
   rw [hk] at h
   obtain ⟨rfl, m, a1, a2⟩ := h
   exact ⟨true, rfl, .inl ⟨⟨.value, k, ⟨F.obj, F.key, F.had ++ [k], F.kids⟩ :: S, none, r⟩, m, by simp only [stepS, hk], rfl, rfl, a1, a2⟩⟩
theorem beh_go {base rb : Nat} {s : ByteArray} {F : Fr} {S : List Fr} {key : ByteArray} {rest : List UInt8} {y : Ending} {w' : World} (hkey : key = none_)
 (h : JBeh base rb s (outF S) (J.flats F.kids) ⟨kindOf F.obj, F.key, 0, none_, 1⟩ F.had (heldF S) key 0 0 F.obj (moreM F.obj (skipB rest)) y w') :
 ∃ (z : Int) (B : Bool), y = .returned (.tuple #[.int .i64 z, .bool B]) ∧ PGo base rb s ⟨.behind, key, F :: S, none, rest⟩ (.bool B) (.int .i64 z) w' := by
 subst hkey
 rw [← moreM_eq] at h
 cases hm : moreV F.obj rest with
 | error b =>
   rw [hm] at h
   obtain ⟨rfl, h2⟩ := h
   exact ⟨0, false, rfl, .inr ⟨rfl, ⟨0, rfl⟩, b, by simp only [stepS, hm], h2.weak⟩⟩
 | ok x =>
   obtain ⟨b, r⟩ := x
   rw [hm] at h
   cases b with
   | true =>
     obtain ⟨rfl, m, a1, a2⟩ := h
     refine ⟨_, true, rfl, .inl ⟨⟨if F.obj then .member else .value, none_, F :: S, none, r⟩, m, by simp only [stepS, hm], rfl, ?_, a1, a2⟩⟩
     cases F.obj <;> rfl
   | false =>
     obtain ⟨rfl, m, a1, a2⟩ := h
     refine ⟨4, true, rfl, .inl ⟨leaveS (F :: S) r, m, by simp only [stepS, hm], rfl, ?_, ?_, ?_⟩⟩
     · simp only [leaveS]; rw [(put_want _ _ _ _).1]; rfl
     · simp only [leaveS]; rw [(put_want _ _ _ _).2.2]; exact a1
     · rw [outN_leave, heldF_leave]
       simp only [leaveS]
       rw [(put_want _ _ _ _).2.1]
       exact a2
theorem end_go {base rb n : Nat} {s : ByteArray} {F : Fr} {S : List Fr} {key : ByteArray} {rest r : List UInt8} {w' : World} (wn : Want) (hkey : key = none_) (hw : wn = (if F.obj then .opened else .first)) (hq : skipB rest = lastOf F.obj :: r)
 (ha : JAt s n r) (hj : JR base rb s n (outF S ++ endNd ⟨kindOf F.obj, F.key, 0, none_, 1⟩ (J.flats F.kids) :: J.flats F.kids) (heldF S) key 0 0 w') : PGo base rb s ⟨wn, key, F :: S, none, rest⟩ (.bool true) (.int .i64 4) w' := by
 subst hkey hw
 have he : endV F.obj rest = (true, r) := by unfold endV; rw [hq, opt1_at]
 refine .inl ⟨leaveS (F :: S) r, n, ?_, rfl, ?_, ?_, ?_⟩
 · cases ho : F.obj
   · rw [ho] at he
     simp [stepS, he]
   · rw [ho] at he
     simp [stepS, he]
 · simp only [leaveS]; rw [(put_want _ _ _ _).1]; rfl
 · simp only [leaveS]; rw [(put_want _ _ _ _).2.2]; exact ha
 · rw [outN_leave, heldF_leave]
   simp only [leaveS]
   rw [(put_want _ _ _ _).2.1]
   exact hj
theorem noend_go {base rb n : Nat} {s : ByteArray} {F : Fr} {S : List Fr} {key : ByteArray} {rest : List UInt8} {w' : World} (wn : Want) (hkey : key = none_) (hw : wn = (if F.obj then .opened else .first)) (hq : nowB [lastOf F.obj] (skipB rest) = false)
 (ha : JAt s n (skipB rest)) (hj : JR base rb s n (outF (F :: S)) (heldF (F :: S)) key 0 0 w') : PGo base rb s ⟨wn, key, F :: S, none, rest⟩ (.bool true) (.int .i64 (if F.obj then 2 else 0)) w' := by
 subst hkey hw
 have he : endV F.obj rest = (false, skipB rest) := by unfold endV; rw [now_no hq]
 refine .inl ⟨⟨if F.obj then .member else .value, none_, F :: S, none, skipB rest⟩, n, ?_, rfl, ?_, ha, hj⟩
 · cases ho : F.obj
   · rw [ho] at he
     simp [stepS, he]
   · rw [ho] at he
     simp [stepS, he]
 · cases F.obj <;> rfl
def JParsed (base : Nat) (s : ByteArray) (e : Ending) (w' : World) : Prop :=
 match parseV s.data.toList with
 | .error (p, c) => e = .returned (.tuple #[.slice none 0 0, .int .i64 (p : Int), .int .i64 c])
 | .ok j => ∃ v, e = .returned (.tuple #[v, .int .i64 0, .int .i64 0]) ∧ NodesOwn base w' v j.flat
theorem ends_is {l : List UInt8} {f : Fin} (h : Ends (st0 l) f) : finV l = f := by
 obtain ⟨t, h1, h2⟩ := h
 exact ((mach_ends l).on h1).at h2
theorem parsed_no {base rb : Nat} {s : ByteArray} {b : Bad} {w : World} (hs : s.size ≤ 1048576) (h : Ends (st0 s.data.toList) (.error b)) (k : JNoW rb s b w) : ∃ (m : Nat), w.cell? ⟨rb, 5, none⟩ = some (.int .i64 b.2) ∧ w.cell? ⟨rb, 6, none⟩ = some (.int .i64 (m : Int)) ∧ JParsed base s (.returned (.tuple #[.slice none 0 0, .int .i64 (m : Int), .int .i64 b.2])) w := by
 obtain ⟨m, cs, h1, h2, h3, h4⟩ := k
 refine ⟨m, (cell_of_heap (i := 5) h2).trans h3, (cell_of_heap (i := 6) h2).trans h4, ?_⟩
 obtain ⟨p, c⟩ := b
 have e := parseV_fin s.data.toList (by rw [list_size]; exact hs)
 rw [ends_is h] at e
 unfold JParsed
 rw [e, list_size]
 have := h1.len
 simp only at this ⊢
 rw [show s.size - p.length = m by omega]
theorem parsed_yes {base : Nat} {s : ByteArray} {j : J} {w : World} {v : Value} (hs : s.size ≤ 1048576) (h : Ends (st0 s.data.toList) (.ok j)) (k : NodesOwn base w v j.flat) : JParsed base s (.returned (.tuple #[v, .int .i64 0, .int .i64 0])) w := by
 have e := parseV_fin s.data.toList (by rw [list_size]; exact hs)
 rw [ends_is h] at e
 unfold JParsed
 rw [e]
 exact ⟨v, rfl, k⟩
end Go.Proofs.YthlfljmfggmfdaaGreatDoor
namespace Go.Proofs.YthlfljmfggmfdaaGreatDoor
open Go.RowKit
theorem JParsed.old {base : Nat} {s : ByteArray} {e : Ending} {w w' : World} (h : JParsed base s e w) (o : Old w w') : JParsed base s e w' := by
 unfold JParsed at h ⊢
 split
 · rename_i p c hp
   rw [hp] at h
   exact h
 · rename_i j hp
   rw [hp] at h
   obtain ⟨v, h1, h2⟩ := h
   exact ⟨v, h1, own_old h2 o⟩
theorem jr_new (s : ByteArray) (w : World) : JR w.heap.size w.heap.size s 0 [] [] none_ 0 0 (w.alloc (.cells #[.string s, .int .i64 0, .slice none 0 0, .slice none 0 0, .string ⟨#[]⟩, .int .i64 0, .int .i64 0] 100)) :=
 ⟨Nat.le_refl _, .slice none 0 0, .slice none 0 0, heap_alloc_new w _, ⟨by simp [ndVals], .inl ⟨rfl, rfl⟩⟩, JOpen.nil_ _ _⟩
theorem jat_0 (s : ByteArray) : JAt s 0 s.data.toList := ⟨by rw [list_size]; omega, rfl⟩
set_option maxRecDepth 100000 in
set_option maxHeartbeats 8000000 in
theorem jparse_run (s : ByteArray) (w : World) (hs : s.size ≤ 1073741824) (hE : Errs w) (hT : Tabs w) :
 Calls Tryz.prog 26 #[.string s] w fun e w' => JParsed w.heap.size s e w' ∧ Old w w' := by
 have HE := hide (show Ever w.heap.size w from fun w' k => ⟨hE.old k, hT.old k⟩)
 clear hE hT
 by_cases hbig : 1048576 < s.size
 · have hq : (1048576 : Int) < (s.size : Int) := by omega
   have FIN := hide (show parseV s.data.toList = .error (0, 5) by unfold parseV; rw [if_pos (by rw [list_size]; exact hbig)])
   clear hbig HE
   go_enter Tryz.func26, Tryz.ntmps26
   go_wp2_with fail
   go_step3
   go_wp2_with fail
   try rw [Exit.noGoto_ret]
   go_ret3
   refine ⟨?_, Old.refl _⟩
   unfold JParsed
   rw [FIN.out]
   rfl
 have hsz : s.size ≤ 1048576 := by omega
 have hq : ¬ (1048576 : Int) < (s.size : Int) := by omega
 have HSZ := hide hsz
 obtain ⟨rb, hrb⟩ : ∃ rb, w.heap.size = rb := ⟨_, rfl⟩
 have HRB := hide hrb
 have J0 := hide (jr_new s w)
 have B0 := hide (show RowKit.Below w.heap.size w (w.alloc (.cells #[.string s, .int .i64 0, .slice none 0 0, .slice none 0 0, .string ⟨#[]⟩, .int .i64 0, .int .i64 0] 100)) from Old.alloc (Old.refl _) _)
 rw [hrb] at J0 B0 HE ⊢
 have R0 := hide (show PRel rb rb s (.bool true) (.int .i64 0) (w.alloc (.cells #[.string s, .int .i64 0, .slice none 0 0, .slice none 0 0, .string ⟨#[]⟩, .int .i64 0, .int .i64 0] 100)) from .inl ⟨st0 s.data.toList, 0, rfl, rfl, pinv_0 _ _ (by rw [list_size]; exact Nat.le_refl _), Steps.refl _, jat_0 s, by simpa [st0, outN, outF, heldF] using J0.out⟩)
 clear hbig hsz J0 hrb
 go_enter Tryz.func26, Tryz.ntmps26
 go_wp2_with fail
 go_step3
 go_wp2_with fail
 go_step3
 go_wp2_with fail
 rw [HRB.out]
 go_loopw [6, 7] (fun iv sv wr => Hid (PRel rb rb s iv sv wr) ∧ Hid (RowKit.Below rb w wr)) (fun iv sv wr => pMeas rb s iv sv wr)
 case atStart => exact ⟨R0, B0⟩
 case round =>
  obtain ⟨HR, HB⟩ := hrel
  have hbw := hide (show rb ≤ w.heap.size by rw [HRB.out]; exact Nat.le_refl _)
  have hbr := hide (Nat.le_trans hbw.out HB.out.size)
  clear R0 B0
  rcases HR.out with ⟨σ, n, rfl, rfl, hi, hst, ha, hj⟩ | ⟨rfl, ⟨z, rfl⟩, b, he, hk⟩
  · have HI := hide hi
    have HST := hide hst
    have HA := hide ha
    have HJ := hide hj
    have CB := hide (blanks_run rb rb s n σ.rest _ _ _ 0 0 wr hj ha hs)
    obtain ⟨want, key, S, done, rest⟩ := σ
    cases want with
    | value =>
      have ho := outN_open hi (.inr (by simp))
      obtain ⟨ho1, hdn⟩ := ho
      simp only at ho1 hdn
      subst hdn
      have h4k := hi.nodes
      rw [ho1] at h4k
      have H4K := hide h4k
      have HT := hide (show (heldF S).length ≤ 64 by rw [heldF_len]; exact hi.small)
      clear hi hst ha hj
      go_wp2_with fail
      refine CB.out.mono ?_
      rintro y w1 ⟨rfl, ⟨m, a1, j1⟩, b1⟩
      rw [ho1] at j1
      clear CB
      have B1 := hide (HB.out.trans b1)
      have CM := hide (begin_run rb rb s m (skipB rest) _ _ key 0 0 w1 j1 a1 hs (HE.out.next B1.out) HT.out H4K.out)
      clear a1 j1 b1
      go_wp2_with fail
      refine CM.out.mono ?_
      rintro y w2 ⟨k2, b2⟩
      obtain ⟨z, B, rfl, pg⟩ := beg_go k2
      have PG := hide (pgo_rel pg HI.out HST.out HA.out HJ.out)
      have B2 := hide (B1.out.trans b2)
      clear k2 b2 pg CM
      go_wp2_with fail
      go_roundw
      case rel => exact ⟨hide PG.out.1, B2⟩
      case measure => exact PG.out.2
    | first =>
      obtain ⟨F, T, hS, hobj⟩ := hi.top.1 rfl
      simp only at hS
      subst hS
      have ho := outN_open hi (.inr (by simp))
      obtain ⟨ho1, hdn⟩ := ho
      simp only at ho1 hdn
      subst hdn
      have HKEY := hide (show key = none_ from hi.keys (by simp))
      have h64 : T.length ≤ 64 := by have := hi.small; simp only [List.length_cons] at this; omega
      have h4k := hi.nodes
      rw [ho1] at h4k
      have H4K := hide h4k
      have HT := hide (show (heldF T).length ≤ 64 by rw [heldF_len]; exact h64)
      have HOBJ := hide hobj
      clear hi hst ha hj
      go_wp2_with fail
      refine CB.out.mono ?_
      rintro y w1 ⟨rfl, ⟨m, a1, j1⟩, b1⟩
      rw [ho1] at j1
      clear CB
      have J1 := hide j1
      have A1 := hide a1
      have B1 := hide (HB.out.trans b1)
      have hb1 := hide (Nat.le_trans hbw.out B1.out.size)
      obtain ⟨B, hB⟩ : ∃ B, Hid (nowB [93] (skipB rest) = B) := ⟨_, hide rfl⟩
      have C1 := hide (ask_run rb rb s m (skipB rest) _ _ key 0 0 w1 j1 a1 93 93 (by decide) B hB.out _ rfl)
      clear a1 j1 b1
      go_wp2_with fail
      refine C1.out.mono ?_
      rintro y w2 ⟨rfl, o2⟩
      have J2 := hide (J1.out.old o2)
      have B2 := hide (B1.out.trans (RowKit.Below.mono o2 hb1.out))
      clear o2 C1
      cases B with
      | true =>
        obtain ⟨r, hr⟩ := now_yes hB.out
        have hA := A1.out
        rw [hr] at hA
        have NX := hide hA.next
        have hlt := (byte_at hA.rest).1
        have CV := hide (leave_run rb rb s m (outF T) (J.flats F.kids) ⟨kindOf F.obj, F.key, 0, none_, 1⟩ F.had (heldF T) key 0 0 w2 J2.out hs hlt HT.out H4K.out)
        have PG := hide (fun w' (h : JR rb rb s (m + 1) (outF T ++ endNd ⟨kindOf F.obj, F.key, 0, none_, 1⟩ (J.flats F.kids) :: J.flats F.kids) (heldF T) key 0 0 w') => pgo_rel (end_go (rest := rest) .first HKEY.out (by rw [HOBJ.out]; rfl) (by rw [HOBJ.out]; exact hr) NX.out h) HI.out HST.out HA.out HJ.out)
        clear hr hA
        go_wp2_with fail
        refine CV.out.mono ?_
        rintro y w3 ⟨rfl, j3, b3⟩
        have P3 := hide (PG.out w3 j3)
        have B3 := hide (B2.out.trans b3)
        clear j3 b3
        go_wp2_with fail
        go_roundw
        case rel => exact ⟨hide P3.out.1, B3⟩
        case measure => exact P3.out.2
      | false =>
        have PG := hide (pgo_rel (noend_go (rest := rest) .first HKEY.out (by rw [HOBJ.out]; rfl) (by rw [HOBJ.out]; exact hB.out) A1.out J2.out) HI.out HST.out HA.out HJ.out)
        rw [HOBJ.out] at PG
        go_wp2_with fail
        go_roundw
        case rel =>
         have e : wrap64 (wrap64 (wrap64 ((wrap64 (wantN Want.first - 1)).tdiv 2) * 2)) = 0 := by decide +kernel
         rw [e]
         exact ⟨hide PG.out.1, B2⟩
        case measure =>
         have e : wrap64 (wrap64 (wrap64 ((wrap64 (wantN Want.first - 1)).tdiv 2) * 2)) = 0 := by decide +kernel
         rw [e]
         exact PG.out.2
    | member =>
      obtain ⟨F, T, hS, hobj⟩ := hi.top.2.1 (.inr rfl)
      simp only at hS
      subst hS
      have ho := outN_open hi (.inr (by simp))
      obtain ⟨ho1, hdn⟩ := ho
      simp only at ho1 hdn
      subst hdn
      have HKEY := hide (show key = none_ from hi.keys (by simp))
      have h64 : T.length ≤ 64 := by have := hi.small; simp only [List.length_cons] at this; omega
      have h4k := hi.nodes
      rw [ho1] at h4k
      have H4K := hide h4k
      have HT := hide (show (heldF T).length ≤ 64 by rw [heldF_len]; exact h64)
      have HOBJ := hide hobj
      have HH := hide (show F.had.length ≤ 1073741824 by have := hi.hads F (List.mem_cons_self ..); simp only at this; omega)
      clear hi hst ha hj
      go_wp2_with fail
      refine CB.out.mono ?_
      rintro y w1 ⟨rfl, ⟨m, a1, j1⟩, b1⟩
      rw [ho1] at j1
      clear CB
      have B1 := hide (HB.out.trans b1)
      have CM := hide (member_run rb rb s m (skipB rest) _ (outF T).length F.had (heldF T) key 0 0 w1 j1 a1 hs (HE.out.next B1.out) HT.out HH.out)
      clear a1 j1 b1
      go_wp2_with fail
      refine CM.out.mono ?_
      rintro y w2 ⟨k2, b2⟩
      obtain ⟨B, rfl, pg⟩ := mem_go (key := key) k2
      have PG := hide (pgo_rel pg HI.out HST.out HA.out HJ.out)
      have B2 := hide (B1.out.trans b2)
      clear k2 b2 pg CM
      go_wp2_with fail
      go_roundw
      case rel => exact ⟨hide PG.out.1, B2⟩
      case measure => exact PG.out.2
    | opened =>
      obtain ⟨F, T, hS, hobj⟩ := hi.top.2.1 (.inl rfl)
      simp only at hS
      subst hS
      have ho := outN_open hi (.inr (by simp))
      obtain ⟨ho1, hdn⟩ := ho
      simp only at ho1 hdn
      subst hdn
      have HKEY := hide (show key = none_ from hi.keys (by simp))
      have h64 : T.length ≤ 64 := by have := hi.small; simp only [List.length_cons] at this; omega
      have h4k := hi.nodes
      rw [ho1] at h4k
      have H4K := hide h4k
      have HT := hide (show (heldF T).length ≤ 64 by rw [heldF_len]; exact h64)
      have HOBJ := hide hobj
      clear hi hst ha hj
      go_wp2_with fail
      refine CB.out.mono ?_
      rintro y w1 ⟨rfl, ⟨m, a1, j1⟩, b1⟩
      rw [ho1] at j1
      clear CB
      have J1 := hide j1
      have A1 := hide a1
      have B1 := hide (HB.out.trans b1)
      have hb1 := hide (Nat.le_trans hbw.out B1.out.size)
      obtain ⟨B, hB⟩ : ∃ B, Hid (nowB [125] (skipB rest) = B) := ⟨_, hide rfl⟩
      have C1 := hide (ask_run rb rb s m (skipB rest) _ _ key 0 0 w1 j1 a1 125 125 (by decide) B hB.out _ rfl)
      clear a1 j1 b1
      go_wp2_with fail
      refine C1.out.mono ?_
      rintro y w2 ⟨rfl, o2⟩
      have J2 := hide (J1.out.old o2)
      have B2 := hide (B1.out.trans (RowKit.Below.mono o2 hb1.out))
      clear o2 C1
      cases B with
      | true =>
        obtain ⟨r, hr⟩ := now_yes hB.out
        have hA := A1.out
        rw [hr] at hA
        have NX := hide hA.next
        have hlt := (byte_at hA.rest).1
        have CV := hide (leave_run rb rb s m (outF T) (J.flats F.kids) ⟨kindOf F.obj, F.key, 0, none_, 1⟩ F.had (heldF T) key 0 0 w2 J2.out hs hlt HT.out H4K.out)
        have PG := hide (fun w' (h : JR rb rb s (m + 1) (outF T ++ endNd ⟨kindOf F.obj, F.key, 0, none_, 1⟩ (J.flats F.kids) :: J.flats F.kids) (heldF T) key 0 0 w') => pgo_rel (end_go (rest := rest) .opened HKEY.out (by rw [HOBJ.out]; rfl) (by rw [HOBJ.out]; exact hr) NX.out h) HI.out HST.out HA.out HJ.out)
        clear hr hA
        go_wp2_with fail
        refine CV.out.mono ?_
        rintro y w3 ⟨rfl, j3, b3⟩
        have P3 := hide (PG.out w3 j3)
        have B3 := hide (B2.out.trans b3)
        clear j3 b3
        go_wp2_with fail
        go_roundw
        case rel => exact ⟨hide P3.out.1, B3⟩
        case measure => exact P3.out.2
      | false =>
        have PG := hide (pgo_rel (noend_go (rest := rest) .opened HKEY.out (by rw [HOBJ.out]; rfl) (by rw [HOBJ.out]; exact hB.out) A1.out J2.out) HI.out HST.out HA.out HJ.out)
        rw [HOBJ.out] at PG
        go_wp2_with fail
        go_roundw
        case rel =>
         have e : wrap64 (wrap64 (wrap64 ((wrap64 (wantN Want.opened - 1)).tdiv 2) * 2)) = 2 := by decide +kernel
         rw [e]
         exact ⟨hide PG.out.1, B2⟩
        case measure =>
         have e : wrap64 (wrap64 (wrap64 ((wrap64 (wantN Want.opened - 1)).tdiv 2) * 2)) = 2 := by decide +kernel
         rw [e]
         exact PG.out.2
    | behind =>
      cases S with
      | nil =>
        obtain ⟨j, hj2⟩ := hi.top.2.2 rfl rfl
        simp only at hj2
        subst hj2
        clear hi hst ha hj
        go_wp2_with fail
        refine CB.out.mono ?_
        rintro y w1 ⟨rfl, ⟨m, a1, j1⟩, b1⟩
        clear CB
        have B1 := hide (HB.out.trans b1)
        have hb1 := hide (Nat.le_trans hbw.out B1.out.size)
        have J1 := hide j1
        have A1 := hide a1
        obtain ⟨ov, hv, ⟨_, x1, x2, x3, _, _, _⟩, _, hno, hop⟩ := j1.cells
        obtain ⟨Ah, ch, rfl, a3, a4⟩ := hop.form
        have hno2 := hide hno
        have hm := a1.le
        cases hq : skipB rest with
        | nil =>
          have hA := a1
          rw [hq] at hA
          have hms := hA.len
          simp only [List.length_nil, Nat.add_zero] at hms
          have hlt : ¬ (m : Int) < (s.size : Int) := by omega
          have hltn : decide (m < s.size) = false := decide_eq_false (by omega)
          have FIN := hide (parsed_yes (base := rb) HSZ.out ⟨_, HST.out, by simp only [stepS, hq]⟩ hno2.out)
          clear a1 j1 b1 hop hA hms hq hno
          go_wp2_with fail
          try rw [Exit.noGoto_ret]
          go_ret3
          exact ⟨FIN.out, by rw [← HRB.out] at B1; exact B1.out⟩
        | cons c p =>
          have hA := a1
          rw [hq] at hA
          have hms := (byte_at hA.rest).1
          have hlt : (m : Int) < (s.size : Int) := by omega
          have hltn : decide (m < s.size) = true := decide_eq_true hms
          have ED := hide (show Ends (st0 s.data.toList) (.error (c :: p, 70)) from ⟨_, HST.out, by simp only [stepS, hq]⟩)
          have HA2 := hide hA
          have CF := hide (jfail_run rb rb s m _ _ _ 0 0 w1 j1 (m : Int) 70)
          clear a1 j1 b1 hop hA hms hq hno
          go_wp2_with fail
          refine CF.out.mono ?_
          rintro y w2 ⟨rfl, j2, b2⟩
          have B2 := hide (B1.out.trans b2)
          have hb2 := hide (Nat.le_trans hbw.out B2.out.size)
          obtain ⟨m2, k5, k6, fin⟩ := parsed_no (base := rb) HSZ.out ED.out (JNo.weak ⟨m, m, _, _, _, HA2.out, j2⟩)
          have FIN := hide fin
          have y5 : ∀ p : Later w2, p.world.cell? ⟨rb, 5, none⟩ = some (.int .i64 70) := fun p => p.old.cell k5
          have y6 : ∀ p : Later w2, p.world.cell? ⟨rb, 6, none⟩ = some (.int .i64 (m2 : Int)) := fun p => p.old.cell k6
          clear j2 b2 fin k5 k6
          go_wp2_with fail
          refine region_later (by kernel_rfl) (by kernel_rfl) ?_
          repeat (go_big_quiet_step (fail))
          refine wpQuiet_nil ?_
          rintro w5 ⟨⟨_, o5⟩, rfl⟩
          have O5 := hide (B2.out.trans (RowKit.Below.mono o5 hb2.out))
          have F5 := hide (FIN.out.old o5)
          clear o5 y5 y6
          go_wp2_with fail
          try rw [Exit.noGoto_ret]
          go_ret3
          exact ⟨F5.out, by rw [← HRB.out] at O5; exact O5.out⟩
      | cons F T =>
        have ho := outN_open hi (.inl (by simp))
        obtain ⟨ho1, hdn⟩ := ho
        simp only at ho1 hdn
        subst hdn
        have HKEY := hide (show key = none_ from hi.keys (by simp))
        have h64 : T.length ≤ 64 := by have := hi.small; simp only [List.length_cons] at this; omega
        have h4k := hi.nodes
        rw [ho1] at h4k
        have H4K := hide h4k
        have HT := hide (show (heldF T).length ≤ 64 by rw [heldF_len]; exact h64)
        clear hi hst ha hj
        go_wp2_with fail
        refine CB.out.mono ?_
        rintro y w1 ⟨rfl, ⟨m, a1, j1⟩, b1⟩
        rw [ho1] at j1
        clear CB
        have B1 := hide (HB.out.trans b1)
        obtain ⟨_, hv, ⟨_, _, _, x3, _, _, _⟩, _, _, hop⟩ := j1.cells
        obtain ⟨Ah, ch, rfl, a3, a4⟩ := hop.form
        obtain ⟨L, hL⟩ : ∃ L, Hid ((heldF (F :: T)).length = L) := ⟨_, hide rfl⟩
        have hL0 : ((L : Int) == 0) = false := by
         have : L = T.length + 1 := by rw [← hL.out, heldF_len]; rfl
         simp
         omega
        rw [hL.out] at x3
        have CM := hide (behind_run rb rb s m (skipB rest) (outF T) (J.flats F.kids) ⟨kindOf F.obj, F.key, 0, none_, 1⟩ F.obj F.had (heldF T) key 0 0 w1 j1 a1 hs HT.out H4K.out rfl)
        clear a1 j1 b1 hop a3 a4
        go_wp2_with fail
        refine CM.out.mono ?_
        rintro y w2 ⟨k2, b2⟩
        obtain ⟨z, B, rfl, pg⟩ := beh_go HKEY.out k2
        have PG := hide (pgo_rel pg HI.out HST.out HA.out HJ.out)
        have B2 := hide (B1.out.trans b2)
        clear k2 b2 pg CM
        go_wp2_with fail
        go_roundw
        case rel => exact ⟨hide PG.out.1, B2⟩
        case measure => exact PG.out.2
  · obtain ⟨m, k5, k6, fin⟩ := parsed_no (base := rb) HSZ.out he hk
    have FIN := hide fin
    have y5 : ∀ p : Later wr, p.world.cell? ⟨rb, 5, none⟩ = some (.int .i64 b.2) := fun p => p.old.cell k5
    have y6 : ∀ p : Later wr, p.world.cell? ⟨rb, 6, none⟩ = some (.int .i64 (m : Int)) := fun p => p.old.cell k6
    clear he hk fin k5 k6
    go_wp2_with fail
    refine region_later (by kernel_rfl) (by kernel_rfl) ?_
    repeat (go_big_quiet_step (fail))
    refine wpQuiet_nil ?_
    rintro w5 ⟨⟨_, o5⟩, rfl⟩
    have O5 := hide (HB.out.trans (RowKit.Below.mono o5 hbr.out))
    have F5 := hide (FIN.out.old o5)
    clear o5 y5 y6
    go_wp2_with fail
    try rw [Exit.noGoto_ret]
    go_ret3
    exact ⟨F5.out, by rw [← HRB.out] at O5; exact O5.out⟩
end Go.Proofs.YthlfljmfggmfdaaGreatDoor
