/- jshow.Show and Canon: what they answer. -/
import Derived.Test.YtmolmphbhdbcaaaGreatDoorAll
import Derived.Test.YtmolmphbhdbcaaaGreatDoorSameT
/-! ### jshow.Show and Canon: what they answer. -/
namespace Go.Proofs.YtmolmphbhdbcaaaGreatDoor
open Go.RowKit

theorem PowTab.old {w w' : World} (h : PowTab w) (o : Old w w') : PowTab w' := Go.Joins.tab_stays (g := 2) (by kernel_rfl) h o (Nat.le_refl _)
/-- each node's key, number and text -/
def Every (Q : ByteArray → Int → ByteArray → Prop) (l : List Nd) : Prop := ∀ x ∈ l, Q x.key x.n x.s
theorem every_append {Q : ByteArray → Int → ByteArray → Prop} {a b : List Nd} : Every Q (a ++ b) ↔ Every Q a ∧ Every Q b := by
  unfold Every
  constructor
  · intro h
    exact ⟨fun x hx => h x (by simp [hx]), fun x hx => h x (by simp [hx])⟩
  · rintro ⟨h1, h2⟩ x hx
    rcases List.mem_append.1 hx with hx | hx
    · exact h1 x hx
    · exact h2 x hx
theorem every_flats {Q : ByteArray → Int → ByteArray → Prop} {l : List J} : Every Q (J.flats l) ↔ ∀ j ∈ l, Every Q j.flat := by
  induction l with
  | nil => simp [J.flats, Every]
  | cons j l ih =>
    rw [show J.flats (j :: l) = j.flat ++ J.flats l by simp [J.flats], every_append, ih]
    simp
theorem every_sort {Q : ByteArray → Int → ByteArray → Prop} : (∀ j : J, Every Q j.flat → Every Q j.sort.flat) ∧ ∀ l : List J, Every Q (J.flats l) → Every Q (J.flats (J.sorts l)) := by
  refine J.both ?_ ?_ ?_
  · intro h l ih ht
    rw [flat_mk] at ht
    have h1 := ih fun x hx => ht x (by simp [hx])
    have h2 := ht ⟨h.kind, h.key, h.n, h.s, (J.flats l).length + 1⟩ (by simp)
    intro x hx
    rw [J.sort, flat_mk, List.mem_cons] at hx
    rcases hx with rfl | hx
    · exact h2
    · refine every_flats.2 (fun j hj => ?_) x hx
      have hj' : j ∈ J.sorts l := by
        split at hj
        · exact (ordJ_perm _).mem_iff.1 hj
        · exact hj
      exact every_flats.1 h1 j hj'
  · intro h
    simpa [J.sorts] using h
  · intro j l h1 h2 ht
    rw [show J.flats (j :: l) = j.flat ++ J.flats l by simp [J.flats], every_append] at ht
    rw [J.sorts, show J.flats (j.sort :: J.sorts l) = j.sort.flat ++ J.flats (J.sorts l) by simp [J.flats], every_append]
    exact ⟨h1 ht.1, h2 ht.2⟩
/-- nodes that are not too many, whose texts are not too long -/
structure Fine (C : Nat) (t : List Nd) : Prop where
  every : Every (fun k n s => k.size ≤ C ∧ s.size ≤ C ∧ -9223372036854775808 ≤ n ∧ n ≤ 9223372036854775807) t
  small : C ≤ 2097152
  room : t.length * (t.length * (12 * C + 32)) + 2 ≤ 1099511627776
theorem Fine.nums {C : Nat} {t : List Nd} (h : Fine C t) : NumsOk t := fun x hx => (h.every x hx).2.2
theorem Fine.texts {C : Nat} {t : List Nd} (h : Fine C t) : TextsOk t := fun x hx => by
  have := h.every x hx
  have := h.small
  unfold maxLen
  omega
theorem room_le {C : Nat} : ∀ {t : List Nd}, (∀ x ∈ t, x.key.size ≤ C ∧ x.s.size ≤ C) → ndRoom t ≤ t.length * (12 * C + 32)
  | [], _ => by simp [ndRoom]
  | x :: t, h => by
    have h1a : x.key.size ≤ C := (h x (by simp)).1
    have h1b : x.s.size ≤ C := (h x (by simp)).2
    have h2 := room_le (t := t) fun y hy => h y (by simp [hy])
    rw [ndRoom_cons, List.length_cons, Nat.add_mul, Nat.one_mul]
    omega
theorem Fine.site {C B : Nat} {t : List Nd} {v : Value} {w : World} (h : Fine C t) (hn : NodesIs w v t) (hB : w.heap.size ≤ B) (hl : t.length ≤ 4000) (hT : Tabs w) (hP : PowTab w) : Site B t v w where
  nodes := hn
  size := hB
  len := hl
  tabs := fun _ o => hT.old o
  pow := fun _ o => PowTab.old hP o
  nums := h.nums
  small := fun x hx => by have := h.every x hx; have := h.small; omega
  room := by
    have h1 := room_le (C := C) (t := t) fun x hx => ⟨(h.every x hx).1, (h.every x hx).2.1⟩
    have h2 := Nat.mul_le_mul_left t.length h1
    have := h.room
    omega
theorem Fine.sort {C : Nat} {j : J} (h : Fine C j.flat) (hl : j.sort.flat.length = j.flat.length) : Fine C j.sort.flat :=
  ⟨every_sort.1 j h.every, h.small, by rw [hl]; exact h.room⟩
/-- what Show answers -/
def ShowT (t : List Nd) (out : List UInt8) (e : Int) : Prop := (chkT t ≠ 0 ∧ e = chkT t ∧ out = []) ∨ ∃ j, May t j ∧ ((j.show.length ≤ maxText ∧ out = j.show ∧ e = 0) ∨ (maxText < j.show.length ∧ out = [] ∧ e = 5))
theorem showT_is (t : List Nd) : ∃ out e, ShowT t out e := by
  by_cases h : chkT t = 0
  · obtain ⟨j, hj⟩ := may_of h
    rcases Nat.lt_or_ge maxText j.show.length with h1 | h1
    · exact ⟨_, _, .inr ⟨j, hj, .inr ⟨h1, rfl, rfl⟩⟩⟩
    · exact ⟨_, _, .inr ⟨j, hj, .inl ⟨h1, rfl, rfl⟩⟩⟩
  · exact ⟨_, _, .inl ⟨h, rfl, rfl⟩⟩
def strE (out : List UInt8) (e : Int) : Value := .tuple #[.string ⟨out.toArray⟩, .int .i64 e]
theorem show_ne (j : J) : j.show ≠ [] := by
  cases j with
  | mk h l =>
    simp only [J.show]
    split
    · simp
    split
    · simp
    split
    · simp
    split
    · unfold Lib.itoa
      split
      · simp
      · intro e
        have h1 := congrArg List.length e
        rw [Lib.decDigits_length] at h1
        have h2 := Lib.nDigits_pos h.n.toNat
        simp only [List.length_nil] at h1
        omega
    split
    · simp [quoteL]
    split
    · simp
    · simp

set_option maxRecDepth 100000 in
set_option maxHeartbeats 1000000 in
theorem show_run (C : Nat) (v : Value) (t : List Nd) (out : List UInt8) (er : Int) (w : World) (hn : NodesIs w v t) (G : Fine C t) (hT : Tabs w) (hP : PowTab w) (hs : ShowT t out er) :
    Calls Tryz.prog 7 #[v] w fun e w' => e = .returned (strE out er) ∧ Old w w' := by
  unfold strE
  have CC := check_run v t w hn G.texts hT
  rcases hs with ⟨h0, rfl, rfl⟩ | ⟨j, hj, hs⟩
  · obtain ⟨c, hc⟩ : ∃ c, Hid (chkT t = c) := ⟨_, hide rfl⟩
    rw [hc.out] at CC h0 ⊢
    have hc0 : (c == 0) = false := beq_eq_false_iff_ne.2 h0
    clear hn G hT hP
    go_enter Tryz.func7, Tryz.ntmps7
    go_wp2_with fail
    refine CC.mono ?_
    rintro e w1 ⟨rfl, o1⟩
    have O1 := hide o1
    clear o1 CC
    go_wp2_with fail
    go_ret2
    exact ⟨rfl, O1.out⟩
  · rw [chkT_may hj] at CC
    have CP := hide (fun w1 (o1 : Old w w1) (X : World) (o2 : Old w1 X) (hX : w1.heap.size ≤ X.heap.size) (hb : WBs 52 w1.heap.size w1.heap.size [] X) =>
      wput_run j t 0 [] v w w1.heap.size w1.heap.size [] X (G.site hn o1.size hj.2.1 hT hP) (by rw [List.drop_zero, List.append_nil]; exact hj.1.2.2) hj.1.1 (by have := hj.2.2; simp; omega) (Old.trans o1 o2) hb hX)
    have HS := hide hs
    have hne := hide (show_ne j)
    obtain ⟨sh, hsh⟩ : ∃ sh, Hid (j.show = sh) := ⟨_, hide rfl⟩
    rw [hsh.out] at CP HS hne
    obtain ⟨A, n, cap, rfl⟩ : ∃ A n cap, v = .slice A n cap := by obtain ⟨A, cap, h, _⟩ := hn.nodes; exact ⟨A, _, cap, h⟩
    clear hn G hT hP hs hj
    go_enter Tryz.func7, Tryz.ntmps7
    go_wp2_with fail
    refine CC.mono ?_
    rintro e w1 ⟨rfl, o1⟩
    have O1 := hide o1
    clear CC
    go_wp2_with fail
    refine (CP.out w1 o1 _ (Old.alloc (Old.refl _) _) (by simp) (Lib.IsBuilderF.of (Lib.fresh_isBuilder _ _ w1))).mono ?_
    rintro e w2 ⟨rfl, bs, h2, p2, k2⟩
    have O2 := hide (show Old w w2 from Old.trans o1 (Below.trans (Old.alloc (Old.refl w1) _) k2.below))
    have H2 := hide h2
    have P2 := hide p2
    obtain ⟨n2, hn2⟩ : ∃ n2, Hid (bs.length = n2) := ⟨_, hide rfl⟩
    have CL := hide (wb_Len 52 _ _ bs w2 h2)
    rw [hn2.out] at CL
    have hB12 : w1.heap.size ≤ w2.heap.size := Nat.le_trans (by simp) k2.below.size
    have hB01 : w.heap.size ≤ w1.heap.size := o1.size
    clear h2 p2 k2 o1 CP
    go_wp2_with fail
    refine CL.out.mono ?_
    rintro e w3 ⟨rfl, rfl⟩
    clear CL
    by_cases hov : n2 > 1048576
    · have hov' : (n2 : Int) > 1048576 := by omega
      have HE := hide (show out = [] ∧ er = 5 by
        rcases HS.out with ⟨h1, _⟩ | ⟨_, h⟩
        · exfalso
          have := P2.out.most
          simp only [List.length_nil, Nat.zero_add, hn2.out] at this
          unfold maxText at h1
          omega
        · exact h)
      go_wp2_with fail
      go_ret2
      exact ⟨by rw [HE.out.1, HE.out.2]; rfl, O2.out⟩
    · have hov' : ¬ (n2 : Int) > 1048576 := by omega
      have HE := hide (show out = sh ∧ er = 0 ∧ bs = sh by
        rcases HS.out with ⟨h1, h2, h3⟩ | ⟨h1, _⟩
        · exact ⟨h2, h3, by simpa using P2.out.fits (by simpa using h1)⟩
        · exfalso
          have := P2.out.over (by simpa using h1)
          rw [hn2.out] at this
          unfold maxText at this
          omega)
      have CS := hide (wb_String 52 _ _ bs _ H2.out (by rw [HE.out.2.2]; exact hne.out))
      go_wp2_with fail
      refine CS.out.mono ?_
      rintro e w4 ⟨rfl, _, k4⟩
      have O4 := hide (show Old w w4 from Below.trans O2.out (k4.below.mono hB01))
      clear k4 CS
      go_wp2_with fail
      go_ret2
      exact ⟨by rw [HE.out.1, HE.out.2.1, HE.out.2.2]; rfl, O4.out⟩
/-- what Canon answers -/
def CanonT (t : List Nd) (out : List UInt8) (e : Int) : Prop := (chkT t ≠ 0 ∧ e = chkT t ∧ out = []) ∨ ∃ j, May t j ∧ ShowT j.sort.flat out e
theorem canonT_is (t : List Nd) : ∃ out e, CanonT t out e := by
  by_cases h : chkT t = 0
  · obtain ⟨j, hj⟩ := may_of h
    obtain ⟨out, e, hs⟩ := showT_is j.sort.flat
    exact ⟨out, e, .inr ⟨j, hj, hs⟩⟩
  · exact ⟨_, _, .inl ⟨h, rfl, rfl⟩⟩
set_option maxRecDepth 100000 in
set_option maxHeartbeats 1000000 in
theorem canon_run (C : Nat) (v : Value) (t : List Nd) (out : List UInt8) (er : Int) (w : World) (hn : NodesIs w v t) (G : Fine C t) (hT : Tabs w) (hP : PowTab w) (hs : CanonT t out er) :
    Calls Tryz.prog 12 #[v] w fun e w' => e = .returned (strE out er) ∧ Old w w' := by
  unfold strE
  have CC := check_run v t w hn G.texts hT
  rcases hs with ⟨h0, rfl, rfl⟩ | ⟨j, hj, hs⟩
  · obtain ⟨c, hc⟩ : ∃ c, Hid (chkT t = c) := ⟨_, hide rfl⟩
    rw [hc.out] at CC h0 ⊢
    have hc0 : (c == 0) = false := beq_eq_false_iff_ne.2 h0
    clear hn G hT hP
    go_enter Tryz.func12, Tryz.ntmps12
    go_wp2_with fail
    refine CC.mono ?_
    rintro e w1 ⟨rfl, o1⟩
    have O1 := hide o1
    clear o1 CC
    go_wp2_with fail
    go_ret2
    exact ⟨rfl, O1.out⟩
  · rw [chkT_may hj] at CC
    have HN := hide hn
    have HG := hide G
    have HT := hide hT
    have HP := hide hP
    have HJ := hide hj
    have HS := hide hs
    clear hn G hT hP hs hj
    go_enter Tryz.func12, Tryz.ntmps12
    go_wp2_with fail
    refine CC.mono ?_
    rintro e w1 ⟨rfl, o1⟩
    have O1 := hide o1
    clear o1 CC
    go_wp2_with fail
    refine (sorted_run v t w1 (HN.out.old O1.out) HG.out.texts (HT.out.old O1.out)).mono ?_
    rintro e w2 ⟨ps, hps, v2, rfl, n2, o2⟩
    obtain ⟨j', hj', rfl⟩ := hps.good (chkT_may HJ.out)
    obtain rfl : j' = j := flat_inj (hj'.1.2.2.symm.trans HJ.out.1.2.2)
    have O2 := hide (Old.trans O1.out o2)
    have N2 := hide (SlT.sl n2)
    have G2 := hide (Fine.sort (C := C) (j := j') (by rw [← HJ.out.1.2.2]; exact HG.out) (sort_len.1 _))
    clear n2 o2 hps hj'
    go_wp2_with fail
    refine (show_run C _ _ out er w2 N2.out G2.out (HT.out.old O2.out) (PowTab.old HP.out O2.out) HS.out).mono ?_
    unfold strE
    rintro e w3 ⟨rfl, o3⟩
    have O3 := hide (Old.trans O2.out o3)
    clear o3
    go_wp2_with fail
    go_ret2
    exact ⟨rfl, O3.out⟩
end Go.Proofs.YtmolmphbhdbcaaaGreatDoor
