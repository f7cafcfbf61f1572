/- JreadCuts: a text that is cut off ahead of its value's end is none: the plain law, and the walk. -/
import Derived.Test.YtcddfpcapbdphaaDoorWorks7
import Derived.Test.YtcddfpcapbdphaaDoorSeedC
namespace Go.Proofs.YtcddfpcapbdphaaDoor
open Go.RowKit

theorem cut_law {l : List UInt8} {j : J} (h : Txt l j) (h4 : j.hd.kind ≠ 4) {k : Nat} (hk : k < l.length) (hl : l.length ≤ 1048576) : parseV (l.take k) = .error (k, 70) ∨ ∃ n, n < k ∧ l[n]? = some 34 ∧ parseV (l.take k) = .error (n, 3) := by
  have hq : l.drop k ≠ [] := by
    intro e
    have := congrArg List.length e
    simp only [List.length_drop, List.length_nil] at this
    omega
  have hpq : l = l.take k ++ l.drop k := (List.take_append_drop k l).symm
  have hlen : (l.take k).length = k := by simp; omega
  have hm := txt_may h.val
  have hs := h.pre_skip hpq
  obtain ⟨p, hp⟩ : ∃ p, l.take k = p := ⟨_, rfl⟩
  rw [hp] at hpq hlen hs ⊢
  rcases h.cut p (l.drop k) hpq hq (fuelOf p) 0 0 (by unfold fuelOf; omega) (by omega) (by omega) with hc | ⟨e, _⟩
  · unfold parseV
    rw [if_neg (by omega), hs]
    rcases hc with e | ⟨q, r, e1, e2⟩
    · left
      rw [e]
      simp [hlen]
    · right
      refine ⟨q.length, ?_, ?_, ?_⟩
      · rw [← hlen, e1]; simp
      · rw [hpq, e1]; simp
      · rw [e2, e1]; simp
  · exact absurd e h4
theorem bring_run' (i n : Int) (w : World) (hn : 0 < n) (hn' : n ≤ 1125899906842624) :
    Calls Tryd.prog 15 #[.int .i64 i, .int .i64 n] w fun e w' => (∃ k : Nat, (k : Int) < n ∧ e = .returned (.int .i64 k)) ∧ w = w' := bring_run i n w hn hn'
/-- the first node's kind -/
theorem kind_cell {w : World} {A : Option Addr} {n c : Nat} {j : J} (h : NodesIs w (.slice A n c) j.flat) : ∃ b off, A = some ⟨b, off, none⟩ ∧ w.cell? ⟨b, off, none⟩ = some (.int .i64 j.hd.kind) := by
  obtain ⟨A', cap, he, h1, h2, h3⟩ := h.nodes
  have hp := flat_pos j
  injection he with e1 e2 e3
  subst e1 e2 e3
  obtain ⟨b, off, rfl, hc⟩ := h3.resolve_left (by omega)
  have := (hc 0 hp).1
  refine ⟨b, off, rfl, ?_⟩
  rw [Nat.zero_mul, Nat.add_zero] at this
  rw [this]
  cases j
  rfl
theorem get_of {S : ByteArray} {n : Nat} {c : UInt8} (h : S.data.toList[n]? = some c) : n < S.size ∧ S.get! n = c := by
  obtain ⟨hn, e⟩ := List.getElem?_eq_some_iff.1 h
  have h1 : S.data.toList.drop n = c :: S.data.toList.drop (n + 1) := by rw [List.drop_eq_getElem_cons hn, e]
  obtain ⟨a, b, _⟩ := byte_at h1
  exact ⟨a, b⟩
set_option maxRecDepth 100000 in
set_option maxHeartbeats 4000000 in
theorem jcuts_walk (u : Value) (l : List Int) (at_ : Int) (w : World) (h : NumsIs w u l) (hT : Tabs w) (hE : Errs w) (hP : PowTab w) :
    Calls Tryd.prog 7 #[.agg #[u], .int .i64 at_] w fun e w' => e = .returned (.bool true) ∧ Old w w' := by
  have HT := hide hT
  have HE := hide hE
  have CD := hide (fun (w' : World) (o : Old w w') => drawn_run u l w' (Sl.old h o) (hT.old o) (hP.old o))
  clear h hT hE hP
  go_enter Tryd.func7, Tryd.ntmps7
  go_wp2_with fail
  refine (CD.out _ (Old.alloc (Old.refl _) _)).mono ?_
  rintro e w1 ⟨v, S, j, rfl, n1, x1, z1, o1⟩
  have O1 := hide (Old.trans (Old.alloc (Old.refl _) _) o1)
  obtain ⟨A, c, hv, _, hcm⟩ := nd_form n1 (rfl : j.flat.length = _)
  subst hv
  obtain ⟨b, off, rfl, hkc⟩ := kind_cell (SlT.sl n1)
  obtain ⟨M, hM⟩ : ∃ M, Hid (j.flat.length = M) := ⟨_, hide rfl⟩
  have hMp : 0 < M := by rw [← hM.out]; exact flat_pos j
  rw [hM.out]
  have hMi : (0 : Int) < (M : Int) := by omega
  have hM0 : ((M : Int) == 0) = false := beq_eq_false_iff_ne.2 (by omega)
  have X1 := hide x1
  obtain ⟨L, hL⟩ : ∃ L, Hid (S.size = L) := ⟨_, hide rfl⟩
  have hL2 : L ≤ 20000 := by rw [← hL.out]; exact z1
  have hL1 : 0 < L := by
    rw [← hL.out, ← list_size]
    exact List.length_pos_iff.2 x1.ne
  clear n1 x1 z1 o1 hcm CD
  by_cases h4 : j.hd.kind = 4
  · rw [h4] at hkc
    have CW := hide (works_run w1 (HE.out.old O1.out) (HT.out.old O1.out))
    go_wp2_with fail
    refine CW.out.mono ?_
    rintro e w2 ⟨rfl, o2⟩
    have O2 := hide (Old.trans O1.out o2)
    clear o2
    go_wp2_with fail
    go_ret
    exact ⟨rfl, O2.out⟩
  · have h4' : (j.hd.kind == 4) = false := beq_eq_false_iff_ne.2 h4
    have H4 := hide h4
    have hSL : (S.size : Int) = (L : Int) := by rw [hL.out]
    obtain ⟨kd, hkd⟩ : ∃ kd, Hid (j.hd.kind = kd) := ⟨_, hide rfl⟩
    rw [hkd.out] at hkc h4'
    have CB := hide (bring_run' at_ (L : Int) w1 (by omega) (by omega))
    clear h4
    go_wp2_with fail
    refine CB.out.mono ?_
    rintro e w2 ⟨⟨k, hk, rfl⟩, rfl⟩
    obtain ⟨P, hPd⟩ : ∃ P, Hid (S.extract 0 k = P) := ⟨_, hide rfl⟩
    have hPl : P.data.toList = S.data.toList.take k := by rw [← hPd.out]; simp
    have hPs : P.size = k := by rw [← hPd.out, ByteArray.size_extract]; have := hL.out; omega
    have CUT := hide (cut_law (k := k) X1.out H4.out (by rw [list_size, hL.out]; omega) (by rw [list_size, hL.out]; omega))
    rw [← hPl] at CUT
    have CP := hide (jparse_run P w1 (by omega) (HE.out.old O1.out) (HT.out.old O1.out))
    have hPd' := hPd.out
    have hk0 : (0 : Int) ≤ (k : Int) := by omega
    have hk1 : (k : Int) ≤ (L : Int) := by omega
    have hk2 : k ≤ S.size := by rw [hL.out]; omega
    clear CB hPl hPs
    have FIN := hide (fun (w3 : World) (o : Old w1 w3) => works_run w3 (HE.out.old (Old.trans O1.out o)) (HT.out.old (Old.trans O1.out o)))
    rcases CUT.out with hp | ⟨n, hn, hS, hp⟩
    · have CQ := hide (CP.out.mono fun e w' h => (show e = .returned (.tuple #[.slice none 0 0, .int .i64 (k : Int), .int .i64 70]) ∧ Old w1 w' from ⟨by
        have h1 := h.1
        unfold JParsed at h1
        rw [hp] at h1
        exact h1, h.2⟩))
      clear CP CUT hp
      go_wp2_with fail
      refine CQ.out.mono ?_
      rintro e w3 ⟨rfl, o3⟩
      have O3 := hide o3
      clear o3 CQ
      go_wp2_with fail
      refine (FIN.out w3 O3.out).mono ?_
      rintro e w4 ⟨rfl, o4⟩
      have O4 := hide (Old.trans O1.out (Old.trans O3.out o4))
      clear o4
      go_wp2_with fail
      go_ret
      exact ⟨rfl, O4.out⟩
    · have CQ := hide (CP.out.mono fun e w' h => (show e = .returned (.tuple #[.slice none 0 0, .int .i64 (n : Int), .int .i64 3]) ∧ Old w1 w' from ⟨by
        have h1 := h.1
        unfold JParsed at h1
        rw [hp] at h1
        exact h1, h.2⟩))
      obtain ⟨hn1, hg⟩ := get_of hS
      have hgi : ((S[n]'hn1).toNat : Int) = 34 := by rw [get_at S hn1, hg]; rfl
      have hn2 : (n : Int) < (S.size : Int) := by omega
      have hn3 : (n : Int) < (k : Int) := by omega
      have hn4 : (0 : Int) ≤ (n : Int) := by omega
      clear CP CUT hp hS
      go_wp2_with fail
      refine CQ.out.mono ?_
      rintro e w3 ⟨rfl, o3⟩
      have O3 := hide o3
      clear o3 CQ
      go_wp2_with fail
      refine (FIN.out w3 O3.out).mono ?_
      rintro e w4 ⟨rfl, o4⟩
      have O4 := hide (Old.trans O1.out (Old.trans O3.out o4))
      clear o4
      go_wp2_with fail
      go_ret
      exact ⟨rfl, O4.out⟩
end Go.Proofs.YtcddfpcapbdphaaDoor
