/- The document's sorted. -/
import Derived.Test.YtmolmphbhdbcaaaDoorInsJ
import Derived.Test.YtmolmphbhdbcaaaDoorRval
import Derived.Test.YtmolmphbhdbcaaaDoorFew
import Derived.Deep.RegionHeld3
import Derived.IntWalk
import Derived.Deep.DeepCutAuto
namespace Go.Proofs.YtmolmphbhdbcaaaDoor
open Go.RowKit

theorem region_push_nodes_ {ops : Array Oper} {E : Prop} {o : Oper} {a : Act} {K : Act → World → Prop} {Q : Exit → Act → World → Prop} (w : World) (s x : Operand) (hgd : o.guard = none)
    (ho : o.op = .call { callee := .builtin .append, args := #[s, x], argTypes := #[22, 22] })
    (base : Nat) (v : Value) (r : List Nd) (hs : a.eval s = v) (hown : NodesOwn base w v r)
    (xv : Value) (q : List Nd) (hev : a.eval x = xv) (hx : NodesIs w xv q) (hlen : r.length + q.length ≤ 4194304) (hbase : base ≤ w.heap.size)
    (h : ∀ v' w', NodesOwn base w' v' (r ++ q) → Kept 50 base w w' → K (a.put o.dst v') w') :
    if Region.wanted o (yielded ops a.tmps) = true then Oper.wp Tryd.prog o a w K Q else E := by
  rw [if_pos (by simp [Region.wanted, hgd])]
  exact step_push_nodes w s x ho base v r hs hown xv q hev hx hlen hbase h

theorem nodes_none {w : World} {A : Option Addr} {n c : Nat} (hn : n = 0) (hc : c ≤ maxLen) : NodesIs w (.slice A n c) [] := by
  subst hn
  exact ⟨A, c, rfl, Nat.zero_le _, hc, fun h => absurd rfl h⟩
theorem nodes_from {w : World} {b o n c : Nat} {t : List Nd} (h : NodesIs w (.slice (some ⟨b, o, none⟩) n c) t) (k : Nat) (hk : k ≤ n) : NodesIs w (.slice (some ⟨b, o + k * 5, none⟩) (n - k) (c - k)) (t.drop k) := by
  obtain ⟨A, cp, he, h1, h2, h3⟩ := h
  injection he with e1 e2 e3
  subst e2 e3
  have hp := Sl.piece (w := w) (b := b) (o := o) (cap := c) (t := t) ⟨A, c, by rw [e1], h1, h2, h3⟩ k (t.length - k) (c - k) (by omega) (by omega) (by omega)
  rwa [List.take_of_length_le (by simp)] at hp
theorem nodes_to {w : World} {A : Option Addr} {n c : Nat} {t : List Nd} (h : NodesIs w (.slice A n c) t) (k : Nat) (hk : k ≤ t.length) : NodesIs w (.slice A k c) (t.take k) :=
  nodes_take h (by simp; omega)

theorem nodes_at {w : World} {A : Option Addr} {n c : Nat} {l : List Nd} (h : NodesIs w (.slice A n c) l) {i : Nat} {x : Nd} (hx : l[i]? = some x) : ∃ b off, A = some ⟨b, off, none⟩ ∧ i < n ∧ w.cell? ⟨b, off + i * 5 + 1, none⟩ = some (.string x.key) ∧ w.cell? ⟨b, off + i * 5 + 4, none⟩ = some (.int .i64 x.size) := by
  obtain ⟨hi, hx⟩ := List.getElem?_eq_some_iff.1 hx
  obtain ⟨A', cap, he, h1, h2, h3⟩ := h.nodes
  injection he with e1 e2 e3
  subst e1 e2 e3
  obtain ⟨b, off, rfl, hc⟩ := h3.resolve_left (by omega)
  obtain ⟨_, c1, _, _, c4⟩ := hc i hi
  rw [hx] at c1 c4
  exact ⟨b, off, rfl, hi, c1, c4⟩
theorem flats_split (Xa Xb : List J) : (J.flats (Xa ++ Xb)).take (J.flats Xa).length = J.flats Xa ∧ (J.flats (Xa ++ Xb)).drop (J.flats Xa).length = J.flats Xb := by
  rw [flats_append]
  exact ⟨List.take_left' rfl, List.drop_left' rfl⟩
theorem flats_head (Xa Y : List J) (y : J) : (J.flats (Xa ++ y :: Y))[(J.flats Xa).length]? = some ⟨y.hd.kind, y.hd.key, y.hd.n, y.hd.s, y.flat.length⟩ := by
  obtain ⟨r, hr⟩ := flat_head y
  rw [flats_append, List.getElem?_append_right (Nat.le_refl _), Nat.sub_self, flats_cons]
  generalize y.flat.length = n at hr
  rw [hr]
  rfl

set_option maxRecDepth 100000 in
set_option maxHeartbeats 4000000 in
theorem ref_sorted (v : Value) (t : List Nd) (w0 : World) (ht : NodesIs w0 v t) (hl : t.length ≤ 4000) : ∀ (n : Nat) (l : List J) (a : Nat) (r : List Nd) (mem : Bool) (w : World), Old w0 w → (J.flats l).length = n → t.drop a = J.flats l ++ r → a ≤ t.length → J.Oks vU l → (mem = true → AptJ l) →
    Calls Tryd.prog 58 #[v, .int .i64 a, .int .i64 ((a + n : Nat) : Int), .bool mem] w (NewNodes w (J.flats (sortedL mem l))) := by
  obtain ⟨A, ca, rfl, hla, hma, hc⟩ := ht.nodes
  unfold maxLen at hma
  have HC := hide hc
  clear ht hc
  intro n
  induction n using Nat.strongRecOn with
  | ind n ih =>
    intro l a r mem w ho hn hd ha hoks hapt
    have IH := hide ih
    have HD := hide hd
    have HW := hide ho
    have HOK := hide hoks
    have HAPT := hide hapt
    have hb : a + n ≤ t.length := by
      have e := congrArg List.length hd
      rw [List.length_append, List.length_drop, hn] at e
      omega
    have HNL := hide hn
    obtain ⟨E, hE⟩ : ∃ E : Nat, Hid (a + n = E) := ⟨_, hide rfl⟩
    rw [hE.out] at hb
    rw [hE.out]
    clear ih ho hn hd hoks hapt
    go_enter Tryd.func58, Tryd.ntmps58
    go_wp2_with fail
    go_loopw [9, 10] (fun o i wr => ∃ (l1 l2 X : List J) (p : Nat), i = .int .i64 p ∧ p ≤ E ∧ Hid (l = l1 ++ l2) ∧ Hid (p = a + (J.flats l1).length) ∧ Hid (InsIs mem l1 X) ∧ Hid (NodesT w.heap.size wr o (J.flats X)) ∧ Hid (Old w wr)) (fun _ i _ => E - (intOf i).toNat)
    case atStart => exact ⟨[], l, [], a, rfl, by have := hE.out; omega, hide rfl, hide (by simp [J.flats]), hide (InsIs.nil _), hide (by simp only [J.flats]; exact SlT.nil_ _), hide (Old.refl _)⟩
    case round =>
      obtain ⟨l1, l2, X, p, rfl, hp, HL, HP, HI, HX, HO⟩ := hrel
      cases l2 with
      | nil =>
        have EQ := hide (show l = l1 by rw [HL.out]; simp)
        have hpe : E ≤ p := by have h1 := HP.out; have h2 := HNL.out; have h3 := hE.out; rw [EQ.out] at h2; omega
        have FIN := hide (show X = sortedL mem l by rw [EQ.out]; exact HI.out.fin (by rw [← EQ.out]; exact HAPT.out))
        go_wp2_with fail
        go_ret
        exact ⟨_, rfl, by rw [← FIN.out]; exact HX.out, HO.out⟩
      | cons j l3 =>
        have HDP : t.drop p = j.flat ++ (J.flats l3 ++ r) := by
          have := HD.out
          rw [HL.out] at this
          rw [HP.out, drop_part this, flats_cons, List.append_assoc]
        obtain ⟨hpt, hpx⟩ := head_flat HDP
        have HDP2 := hide HDP
        obtain ⟨b1, o1, rfl, hc1⟩ := HC.out.resolve_left (by omega)
        obtain ⟨d0, d1, d2, d3, d4⟩ := hc1 p hpt
        rw [hpx] at d0 d1 d2 d3 d4
        have hq := flat_pos j
        have hsum : p + j.flat.length ≤ E := by
          have h1 := HP.out
          have h2 := HNL.out
          have h3 := hE.out
          rw [HL.out, flats_append, flats_cons, List.length_append, List.length_append] at h2
          omega
        have hjn : j.flat.length ≤ n := by have h1 := HP.out; have h3 := hE.out; omega
        have hjok : J.Ok vU j := oks_mem HOK.out j (by rw [HL.out]; simp)
        obtain ⟨q, hqq⟩ : ∃ q, Hid (j.flat.length = q + 1) := ⟨j.flat.length - 1, hide (by omega)⟩
        obtain ⟨bk, hbk⟩ : ∃ b, (j.hd.kind == 7) = b := ⟨_, rfl⟩
        have HBK := hide (show decide (j.hd.kind = 7) = bk by rw [← hbk]; rfl)
        have CR := hide (show ∀ w', Old wr w' → Calls Tryd.prog 58 #[.slice (some ⟨b1, o1, none⟩) t.length ca, .int .i64 ((p : Int) + 1), .int .i64 ((p : Int) + ((q : Int) + 1)), .bool bk] w' (NewNodes w' (J.flats (sortedL bk j.kids))) from fun w' ho => by
          cases j with
          | mk h kl =>
            have hk := drop_kids HDP
            have hkl : (J.flats kl).length = q := by have := hqq.out; rw [flat_mk, List.length_cons] at this; omega
            have := IH.out q (by have := hqq.out; omega) kl (p + 1) _ bk w' (Old.trans (Old.trans HW.out HO.out) ho) hkl hk (by omega) (oks_of (kid_ok hjok)) (fun hb => (apt_of_keys vU _ [] (ok_keys hjok (by rw [hb] at hbk; simpa using hbk))).1)
            have e1 : ((p + 1 : Nat) : Int) = (p : Int) + 1 := by omega
            have e2 : ((p + 1 + q : Nat) : Int) = (p : Int) + ((q : Int) + 1) := by omega
            rwa [e1, e2] at this)
        have HONE := hide (show [⟨j.hd.kind, j.hd.key, j.hd.n, j.hd.s, (q : Int) + 1⟩] ++ J.flats (sortedL bk j.kids) = j.sort.flat by
          rw [sort_one (n := q + 1) hqq.out, HBK.out]
          rfl)
        have e4 : ((j.flat.length : Nat) : Int) = (q : Int) + 1 := by have := hqq.out; omega
        simp only [e4] at d4
        have O0 := Old.trans HW.out HO.out
        have c0 : ∀ w', Old wr w' → w'.cell? ⟨b1, o1 + p * 5, none⟩ = some (.int .i64 j.hd.kind) := fun w' h => (Old.trans O0 h).cell d0
        have c1 : ∀ w', Old wr w' → w'.cell? ⟨b1, o1 + p * 5 + 1, none⟩ = some (.string j.hd.key) := fun w' h => (Old.trans O0 h).cell d1
        have c2 : ∀ w', Old wr w' → w'.cell? ⟨b1, o1 + p * 5 + 2, none⟩ = some (.int .i64 j.hd.n) := fun w' h => (Old.trans O0 h).cell d2
        have c3 : ∀ w', Old wr w' → w'.cell? ⟨b1, o1 + p * 5 + 3, none⟩ = some (.string j.hd.s) := fun w' h => (Old.trans O0 h).cell d3
        have c4 : ∀ w', Old wr w' → w'.cell? ⟨b1, o1 + p * 5 + 4, none⟩ = some (.int .i64 ((q : Int) + 1)) := fun w' h => (Old.trans O0 h).cell d4
        have D1 := hide d1
        have D4 := hide d4
        have L1 : ([] : List Nd).length + [(⟨j.hd.kind, j.hd.key, j.hd.n, j.hd.s, (q : Int) + 1⟩ : Nd)].length ≤ 4194304 := by simp
        have hkq : (J.flats (sortedL bk j.kids)).length = q := by
          have := congrArg List.length HONE.out
          rw [List.length_append, sort_len.1, hqq.out] at this
          simp at this
          omega
        have L2 : [(⟨j.hd.kind, j.hd.key, j.hd.n, j.hd.s, (q : Int) + 1⟩ : Nd)].length + (J.flats (sortedL bk j.kids)).length ≤ 4194304 := by rw [hkq]; simp; omega
        have HJOK := hide hjok
        have hw1 : IntKind.i64.wrap ((p : Int) + 1) = (p : Int) + 1 := IntWalk.i64_in _ (by omega)
        have hw2 : IntKind.i64.wrap ((p : Int) + ((q : Int) + 1)) = (p : Int) + ((q : Int) + 1) := IntWalk.i64_in _ (by have := hqq.out; omega)
        have hpE : p + (q + 1) ≤ E := by have := hqq.out; omega
        clear d0 d1 d2 d3 d4 O0 e4 hkq hpx hc1 HDP hjok hsum hjn
        go_wp2_with fail
        go_region_held3 (fun w' => Old wr w')
          (first | (exact Old.drew (Old.refl _)) | (exact Old.alloc (by assumption) _) | (exact Old.trans (by assumption) (by assumption)) | (exact Kept.old (by assumption) (by assumption) (Nat.le_refl _)))
          (first
            | (go_at_call 58; (with_reducible refine (CR.out _ (by assumption)).mono ?_); rintro e w8 ⟨v2, rfl, n2, o2⟩)
            | (refine step_push_nodes _ _ _ rfl wr.heap.size (.slice none 0 0) [] rfl (World.ownsRow_nil _ _ _ _) _ [⟨j.hd.kind, j.hd.key, j.hd.n, j.hd.s, (q : Int) + 1⟩] rfl (one_node _ ⟨j.hd.kind, j.hd.key, j.hd.n, j.hd.s, (q : Int) + 1⟩ _ (by simp) 0 (Nat.zero_le _)).sl L1 (Below.size (w := wr) (by assumption)) ?_; intro v1 w7 own1 kept1)
            | (refine step_push_nodes _ _ _ rfl wr.heap.size _ _ rfl (own_old own1 o2) _ (J.flats (sortedL bk j.kids)) rfl n2.sl L2 (Below.size (w := wr) (by assumption)) ?_; intro v3 w9 own3 kept3))
        have O9 := hide (show Old wr w9 by assumption)
        have P1 := hide (show NodesT wr.heap.size w9 v3 j.sort.flat by
          have h := SlT.of_own own3
          rw [List.nil_append, HONE.out] at h
          exact h)
        clear own1 kept1 n2 o2 own3 kept3 c0 c1 c2 c3 c4 L1 L2 hw1 hw2
        obtain ⟨N, hN⟩ : ∃ N, Hid ((J.flats X).length = N) := ⟨_, hide rfl⟩
        obtain ⟨AX, cX, rfl, q1, q2⟩ := nodes_form HX.out hN.out
        unfold maxLen at q2
        have NX := hide (SlT.sl (HX.out.old O9.out))
        have hN4 : N ≤ 4000 := by
          have h1 := HI.out.len
          have h2 := HNL.out
          rw [hN.out] at h1
          rw [HL.out, flats_append, List.length_append] at h2
          have h3 := hE.out
          omega
        have D1w := hide (show w9.cell? ⟨b1, o1 + p * 5 + 1, none⟩ = some (.string j.hd.key) from (Old.trans (Old.trans HW.out HO.out) O9.out).cell D1.out)
        have HNE := hide (show mem = true → ∀ x ∈ l1, x.key ≠ j.key from fun hm x hx => by
          have h := HAPT.out hm
          rw [HL.out] at h
          exact (List.pairwise_append.1 h).2.2 x hx j (by simp))
        go_upto_if 52 with fail
        go_cut [12] (fun kv wc => ∃ (Xa Xb : List J) (k : Nat), kv = .int .i64 k ∧ k ≤ N ∧ Hid (X = Xa ++ Xb) ∧ Hid ((J.flats Xa).length = k) ∧ Hid (InsIs mem (l1 ++ [j]) (Xa ++ j.sort :: Xb)) ∧ Hid (Old w9 wc))
        case first =>
          cases mem
          · go_wp2_with fail
            go_meet
            exact ⟨X, [], N, rfl, Nat.le_refl _, hide (by simp), hN, hide (HI.out.behind j), hide (Old.refl _)⟩
          · go_wp2_with fail
            go_loopw [12] (fun kv wz => ∃ (Xa Xb : List J) (k : Nat), kv = .int .i64 k ∧ k ≤ N ∧ Hid (X = Xa ++ Xb) ∧ Hid ((J.flats Xa).length = k) ∧ Hid (∀ x ∈ Xa, keyLt x.key j.key) ∧ Hid (Old w9 wz)) (fun kv _ => N - (intOf kv).toNat)
            case atStart => exact ⟨[], X, 0, rfl, by omega, hide rfl, hide rfl, hide (by simp), hide (Old.refl _)⟩
            case round =>
              obtain ⟨Xa, Xb, k, rfl, hkN, HXX, HK, HLT, HZ⟩ := hrel
              have d1 := HZ.out.cell D1w.out
              cases Xb with
              | nil =>
                have hkn : k = N := by rw [← HK.out, ← hN.out, HXX.out, List.append_nil]
                have hk' : decide ((k : Int) < (N : Int)) = false := by simp; omega
                have hk2 : decide (k < N) = false := by simp; omega
                have HAT := hide (InsIs.at_ (l := l1) (j := j) (Xa := Xa) (Xb := []) (by rw [← HXX.out]; exact HI.out) HLT.out (fun y Y h => by cases h) (HNE.out (by trivial)))
                clear hkn
                go_wp2_with fail
                go_quiet (fail)
                go_wp2_with fail
                go_meet
                exact ⟨Xa, [], k, rfl, hkN, HXX, HK, HAT, hide (Old.drewN HZ.out _)⟩
              | cons y Y =>
                have hx := flats_head Xa Y y
                rw [← HXX.out, HK.out] at hx
                obtain ⟨b2, o2, rfl, hkn, e1, e4⟩ := nodes_at (Sl.old NX.out HZ.out) hx
                have hyp := flat_pos y
                have hyN : k + y.flat.length ≤ N := by
                  have h1 := hN.out
                  have h2 := HK.out
                  rw [HXX.out, flats_append, flats_cons, List.length_append, List.length_append] at h1
                  omega
                have HKN := hide (show (J.flats (Xa ++ [y])).length = k + y.flat.length by rw [flats_append, flats_one, List.length_append, HK.out])
                obtain ⟨z, hz⟩ : ∃ z, Hid (y.flat.length = z) := ⟨_, hide rfl⟩
                simp only at e1 e4
                rw [hz.out] at e4 hyp hyN HKN
                clear hx
                cases hB : Op.bytesLess y.hd.key.toList j.hd.key.toList
                · have HBF := hide hB
                  have HAT := hide (InsIs.at_ (l := l1) (j := j) (Xa := Xa) (Xb := y :: Y) (by rw [← HXX.out]; exact HI.out) HLT.out (fun y' Y' h => by
                    injection h with h1 h2
                    subst h1
                    intro hlt
                    have := (less_iff _ _).2 hlt
                    rw [show y.key = y.hd.key from rfl, show j.key = j.hd.key from rfl, HBF.out] at this
                    cases this) (HNE.out (by trivial)))
                  go_wp2_with fail
                  go_quiet (fail)
                  go_wp2_with fail
                  go_meet
                  exact ⟨Xa, y :: Y, k, rfl, hkN, HXX, HK, HAT, hide (Old.drewN HZ.out _)⟩
                · have HBF := hide ((less_iff _ _).1 hB)
                  go_wp2_with fail
                  go_quiet (fail)
                  go_wp2_with fail
                  go_roundw
                  case rel => exact ⟨Xa ++ [y], Y, k + z, by go_num, hyN, hide (by rw [HXX.out]; simp), HKN, hide (by
                    intro x hx
                    rcases List.mem_append.1 hx with hx | hx
                    · exact HLT.out x hx
                    · simp at hx
                      subst hx
                      exact HBF.out), hide (Old.drewN HZ.out _)⟩
                  case measure => simp [intOf]; omega
        case rest =>
          obtain ⟨Xa, Xb, k, rfl, hkN, HXX, HK, HINS, HOC⟩ := hcut
          have hsp := flats_split Xa Xb
          rw [← HXX.out, HK.out] at hsp
          have PA := hide (show ∀ w', Old wc w' → NodesIs w' (.slice AX k cX) (J.flats Xa) from fun w' h => by
            have := nodes_to ((NX.out.old HOC.out).old h) k (by rw [hN.out]; exact hkN)
            rwa [hsp.1] at this)
          have PO := hide (show ∀ w', Old wc w' → NodesIs w' v3 j.sort.flat from fun w' h => (SlT.sl P1.out).old (Old.trans HOC.out h))
          have hla1 : (J.flats Xa).length = k := HK.out
          have hlb1 : (J.flats Xb).length = N - k := by
            have h1 := hN.out
            rw [HXX.out, flats_append, List.length_append, hla1] at h1
            omega
          have L1 : ([] : List Nd).length + (J.flats Xa).length ≤ 4194304 := by rw [hla1]; simp; omega
          have L2 : ([] ++ J.flats Xa).length + j.sort.flat.length ≤ 4194304 := by rw [sort_len.1, hqq.out, List.nil_append, hla1]; omega
          have L3 : ([] ++ J.flats Xa ++ j.sort.flat).length + (J.flats Xb).length ≤ 4194304 := by rw [List.length_append, sort_len.1, hqq.out, List.nil_append, hla1, hlb1]; omega
          have HOUT := hide (show [] ++ J.flats Xa ++ j.sort.flat ++ J.flats Xb = J.flats (Xa ++ j.sort :: Xb) by rw [List.nil_append, flats_append, flats_cons, List.append_assoc])
          have HQN := hide (show p + (q + 1) = a + (J.flats (l1 ++ [j])).length by rw [flats_append, flats_one, List.length_append, hqq.out, HP.out]; omega)
          have HLB := hide hlb1
          have HSP := hide hsp
          clear hsp hla1 hlb1
          by_cases hkn : k < N
          · obtain ⟨b2, o2, rfl⟩ : ∃ b o, AX = some ⟨b, o, none⟩ := by
              cases Xb with
              | nil => have := HLB.out; simp [J.flats] at this; omega
              | cons y Y =>
                have hx := flats_head Xa Y y
                rw [← HXX.out, HK.out] at hx
                obtain ⟨b2, o2, h, _⟩ := nodes_at NX.out hx
                exact ⟨b2, o2, h⟩
            have PB := hide (show ∀ w', Old wc w' → NodesIs w' (.slice (some ⟨b2, o2 + k * 5, none⟩) (N - k) (cX - k)) (J.flats Xb) from fun w' h => by
              have := nodes_from ((NX.out.old HOC.out).old h) k hkN
              rwa [HSP.out.2] at this)
            have hb0 : (0 : Int) ≤ (k : Int) := by omega
            have hb1 : (k : Int) ≤ (cX : Int) := by omega
            have hb2 : (k : Int) ≤ (N : Int) := by omega
            have hb3 : ¬ k = cX := by omega
            have hb4 : ¬ cX = k := by omega
            go_wp2_with fail
            go_region_held3 (fun w' => Old wc w')
              (first | (exact Old.drew (Old.refl _)) | (exact Old.alloc (by assumption) _) | (exact Old.trans (by assumption) (by assumption)) | (exact Kept.old (by assumption) (by assumption) (Nat.le_refl _)))
              (first
                | (refine step_push_nodes _ _ _ rfl wc.heap.size (.slice none 0 0) [] rfl (World.ownsRow_nil _ _ _ _) _ (J.flats Xa) rfl (PA.out _ (by assumption)) L1 (Below.size (w := wc) (by assumption)) ?_; intro u1 wa ow1 kp1)
                | (refine step_push_nodes _ _ _ rfl wc.heap.size _ _ rfl ow1 _ j.sort.flat rfl (PO.out _ (by assumption)) L2 (Below.size (w := wc) (by assumption)) ?_; intro u2 wb ow2 kp2)
                | (refine step_push_nodes _ _ _ rfl wc.heap.size _ _ rfl ow2 _ (J.flats Xb) rfl (PB.out _ (by assumption)) L3 (Below.size (w := wc) (by assumption)) ?_; intro u3 wd ow3 kp3))
            have OD := hide (show Old w wd from Old.trans (Old.trans HO.out (Old.trans O9.out HOC.out)) (by assumption))
            have d4 := (Old.trans HW.out OD.out).cell D4.out
            have OWN := hide (SlT.mono (SlT.of_own ow3) (Old.trans HO.out (Old.trans O9.out HOC.out)).size)
            clear ow1 kp1 ow2 kp2 ow3 kp3 L1 L2 L3
            go_wp2_with fail
            go_roundw
            case rel => exact ⟨l1 ++ [j], l3, Xa ++ j.sort :: Xb, p + (q + 1), by go_num, hpE, hide (by rw [HL.out]; simp), HQN, HINS, hide (by rw [← HOUT.out]; exact OWN.out), OD⟩
            case measure => simp [intOf]; omega
          · have hbn : J.flats Xb = [] := List.eq_nil_of_length_eq_zero (by rw [HLB.out]; omega)
            have PB := hide (show ∀ w' A' m c, m = 0 → c ≤ maxLen → NodesIs w' (.slice A' m c) (J.flats Xb) from fun w' A' m c hm hc => by rw [hbn]; exact nodes_none hm hc)
            clear hbn
            have hb0 : (0 : Int) ≤ (k : Int) := by omega
            have hb2 : (k : Int) ≤ (N : Int) := by omega
            rcases Nat.lt_or_ge k cX with hkc | hkc
            · have hb1 : (k : Int) ≤ (cX : Int) := by omega
              have hb3 : ¬ k = cX := by omega
              have hb4 : ¬ cX = k := by omega
              go_wp2_with fail
              go_region_held3 (fun w' => Old wc w')
                (first | (exact Old.drew (Old.refl _)) | (exact Old.alloc (by assumption) _) | (exact Old.trans (by assumption) (by assumption)) | (exact Kept.old (by assumption) (by assumption) (Nat.le_refl _)))
                (first
                  | (refine step_push_nodes _ _ _ rfl wc.heap.size (.slice none 0 0) [] rfl (World.ownsRow_nil _ _ _ _) _ (J.flats Xa) rfl (PA.out _ (by assumption)) L1 (Below.size (w := wc) (by assumption)) ?_; intro u1 wa ow1 kp1)
                  | (refine step_push_nodes _ _ _ rfl wc.heap.size _ _ rfl ow1 _ j.sort.flat rfl (PO.out _ (by assumption)) L2 (Below.size (w := wc) (by assumption)) ?_; intro u2 wb ow2 kp2)
                  | (refine step_push_nodes _ _ _ rfl wc.heap.size _ _ rfl ow2 _ (J.flats Xb) rfl (PB.out _ _ _ _ (by omega) (by unfold maxLen; omega)) L3 (Below.size (w := wc) (by assumption)) ?_; intro u3 wd ow3 kp3))
              have OD := hide (show Old w wd from Old.trans (Old.trans HO.out (Old.trans O9.out HOC.out)) (by assumption))
              have d4 := (Old.trans HW.out OD.out).cell D4.out
              have OWN := hide (SlT.mono (SlT.of_own ow3) (Old.trans HO.out (Old.trans O9.out HOC.out)).size)
              clear ow1 kp1 ow2 kp2 ow3 kp3 L1 L2 L3
              go_wp2_with fail
              go_roundw
              case rel => exact ⟨l1 ++ [j], l3, Xa ++ j.sort :: Xb, p + (q + 1), by go_num, hpE, hide (by rw [HL.out]; simp), HQN, HINS, hide (by rw [← HOUT.out]; exact OWN.out), OD⟩
              case measure => simp [intOf]; omega
            · obtain rfl : k = cX := by omega
              have hb1 : (k : Int) ≤ (k : Int) := by omega
              go_wp2_with fail
              go_region_held3 (fun w' => Old wc w')
                (first | (exact Old.drew (Old.refl _)) | (exact Old.alloc (by assumption) _) | (exact Old.trans (by assumption) (by assumption)) | (exact Kept.old (by assumption) (by assumption) (Nat.le_refl _)))
                (first
                  | (refine step_push_nodes _ _ _ rfl wc.heap.size (.slice none 0 0) [] rfl (World.ownsRow_nil _ _ _ _) _ (J.flats Xa) rfl (PA.out _ (by assumption)) L1 (Below.size (w := wc) (by assumption)) ?_; intro u1 wa ow1 kp1)
                  | (refine step_push_nodes _ _ _ rfl wc.heap.size _ _ rfl ow1 _ j.sort.flat rfl (PO.out _ (by assumption)) L2 (Below.size (w := wc) (by assumption)) ?_; intro u2 wb ow2 kp2)
                  | (refine step_push_nodes _ _ _ rfl wc.heap.size _ _ rfl ow2 _ (J.flats Xb) rfl (PB.out _ _ _ _ (by omega) (by unfold maxLen; omega)) L3 (Below.size (w := wc) (by assumption)) ?_; intro u3 wd ow3 kp3))
              have OD := hide (show Old w wd from Old.trans (Old.trans HO.out (Old.trans O9.out HOC.out)) (by assumption))
              have d4 := (Old.trans HW.out OD.out).cell D4.out
              have OWN := hide (SlT.mono (SlT.of_own ow3) (Old.trans HO.out (Old.trans O9.out HOC.out)).size)
              clear ow1 kp1 ow2 kp2 ow3 kp3 L1 L2 L3
              go_wp2_with fail
              go_roundw
              case rel => exact ⟨l1 ++ [j], l3, Xa ++ j.sort :: Xb, p + (q + 1), by go_num, hpE, hide (by rw [HL.out]; simp), HQN, HINS, hide (by rw [← HOUT.out]; exact OWN.out), OD⟩
              case measure => simp [intOf]; omega
end Go.Proofs.YtmolmphbhdbcaaaDoor

