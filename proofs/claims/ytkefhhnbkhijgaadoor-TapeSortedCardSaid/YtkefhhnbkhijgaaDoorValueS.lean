/- The statements' own inputs: the value of a seed. -/
import Derived.Test.YtkefhhnbkhijgaaDoorSeedL
import Derived.Deep.DeepCutAuto
import Derived.IntWalk
import Derived.Deep.RegionHeld3
namespace Go.Proofs.YtkefhhnbkhijgaaDoor
open Go.RowKit

/-- what a value of a seed is -/
def ValueT (deep sb : Nat) (w : World) (N : List Int) (e : Ending) (w' : World) : Prop :=
  ∃ (v : Value) (t : List Nd) (j : J) (N' : List Int), e = .returned (.tuple #[v, .bool true]) ∧ NodesT w.heap.size w' v t ∧ May t j ∧ TextsOk t ∧ j.deep + deep ≤ 8 ∧ t.length + 2 * N'.length ≤ 1 + 2 * N.length ∧ N'.length ≤ N.length ∧ SeedIs sb w' N' ∧ Two sb sb w w'
theorem leaf_texts {k n : Int} {s : ByteArray} (hs : s.size ≤ 4) : TextsOk (leafT k n s) := by
  intro x hx
  simp [leafT] at hx
  subst hx
  exact ⟨Nat.zero_le _, by unfold maxLen; show s.size ≤ _; omega⟩
theorem value_leaf_t {deep sb : Nat} {w w1 w' : World} {N N' : List Int} {v : Value} {k n : Int} {s : ByteArray} (hd : deep ≤ 7) (h : NodesT w1.heap.size w' v (leafT k n s)) (hl : leafOk vU ⟨k, none_, n, s⟩) (hs : s.size ≤ 4) (hN : N'.length ≤ N.length) (h1 : SeedIs sb w1 N') (h2 : Two sb sb w w1) (o : Old w1 w') :
    ValueT deep sb w N (.returned (.tuple #[v, .bool true])) w' := by
  have e1 : (leafJ k n s).deep = 1 := by simp [leafJ, J.deep, J.deeps]
  have e2 : (leafT k n s).length = 1 := rfl
  exact ⟨v, _, _, N', rfl, h.mono h2.size, leafMay hl, leaf_texts hs, by omega, by omega, hN, h1.old o, h2.old o⟩
theorem letter_cut {i : Nat} (h : i < 5) : (⟨#[97, 98, 99, 100, 101]⟩ : ByteArray).extract i (i + 1) = letterAt i := by
  have h5 : i = 0 ∨ i = 1 ∨ i = 2 ∨ i = 3 ∨ i = 4 := by omega
  rcases h5 with rfl | rfl | rfl | rfl | rfl <;> rfl
theorem letter_size (i : Nat) : (letterAt i).size ≤ 1 := Nat.le_refl 1
theorem tail_len (N : List Int) : N.tail.length ≤ N.length := by simp

set_option maxRecDepth 100000 in
set_option maxHeartbeats 4000000 in
theorem value_step (W0 : World) (hT : Tabs W0) (sb : Nat) (hsb : W0.heap.size ≤ sb) (deep : Nat) (hd : deep ≤ 7) (IH : deep < 7 → ∀ (N : List Int) (w : World), N.length ≤ 150 → SeedIs sb w N → Old W0 w → Calls Tryd.prog 54 #[.pointer (some ⟨sb, 0, none⟩), .int .i64 ((deep : Int) + 1)] w (ValueT (deep + 1) sb w N))
    (N : List Int) (w : World) (hN : N.length ≤ 150) (hS : SeedIs sb w N) (hW : Old W0 w) :
    Calls Tryd.prog 54 #[.pointer (some ⟨sb, 0, none⟩), .int .i64 deep] w (ValueT deep sb w N) := by
  have HI := hide IH
  have HT := hide hT
  have HW := hide hW
  have C8 := hide (next_run 8 sb N w hS (by omega) (by omega))
  have CN := hide (fun (n : Int) (hn : 0 < n) (hn' : n ≤ 1000) (M : List Int) (w' : World) (h : SeedIs sb w' M) => next_run n sb M w' h hn hn')
  have hsw := hS.lt
  clear IH hT hW hS
  go_enter Tryd.func54, Tryd.ntmps54
  go_wp2_with fail
  refine C8.out.mono ?_
  rintro e w1 ⟨k0, hk0, rfl, s1, t1⟩
  obtain ⟨M, hM⟩ : ∃ M, Hid (N.tail = M) := ⟨_, hide rfl⟩
  rw [hM.out] at s1
  have hMN : M.length ≤ N.length := by rw [← hM.out]; exact tail_len N
  have S1 := hide s1
  have T1 := hide t1
  obtain ⟨A, c, b1, b2, b3, _⟩ := s1.box
  unfold maxLen at b3
  obtain ⟨L, hL⟩ : ∃ L, Hid (M.length = L) := ⟨_, hide rfl⟩
  rw [hL.out] at b1 b2 hMN
  clear s1 t1 C8
  go_upto_region 2 with fail
  go_cut [27] (fun bv wc => ∃ b : Bool, bv = .bool b ∧ (b = false → deep ≤ 6 ∧ 0 < L) ∧ wc = w1)
  case first =>
    by_cases h6 : 6 < deep
    · have h6' : (6 : Int) < (deep : Int) := by omega
      go_wp2_with fail
      go_meet
      exact ⟨true, rfl, (fun h => by cases h), rfl⟩
    · have h6' : ¬ (6 : Int) < (deep : Int) := by omega
      by_cases hl : L = 0
      · subst hl
        go_wp2_with fail
        go_meet
        exact ⟨true, rfl, (fun h => by cases h), rfl⟩
      · have hl' : ((L : Int) == 0) = false := beq_eq_false_iff_ne.2 (by omega)
        go_wp2_with fail
        go_meet
        exact ⟨false, rfl, (fun _ => by omega), rfl⟩
  case rest =>
    obtain ⟨b, rfl, HB, rfl⟩ := hcut
    go_upto_if 27 with fail
    go_cut [6] (fun kv wd => ∃ K : Nat, kv = .int .i64 K ∧ K < 8 ∧ (5 ≤ K → deep ≤ 6 ∧ 0 < L) ∧ wd = wc)
    case first =>
      cases b
      · go_wp2_with fail
        go_meet
        exact ⟨k0, rfl, by omega, fun _ => HB (by trivial), rfl⟩
      · go_wp2_with fail
        go_meet
        exact ⟨k0 % 5, by go_num, by omega, fun h => by omega, rfl⟩
    case rest =>
      obtain ⟨K, rfl, hK8, hK5, rfl⟩ := hcut
      have hML : M.length ≤ N.length := by rw [hL.out]; exact hMN
      have hMT := Nat.le_trans (tail_len M) hML
      clear b1 b2 b3 HB
      by_cases h0 : K = 0
      · subst h0
        go_wp2_with fail
        refine (null_run _).mono ?_
        rintro e w2 ⟨v2, rfl, n2, o2⟩
        go_wp2_with fail
        go_ret2
        exact value_leaf_t hd n2 (.inl ⟨.inl rfl, rfl, rfl⟩) (by decide) hML S1.out T1.out o2
      by_cases h1 : K = 1
      · subst h1
        go_wp2_with fail
        refine (CN.out 2 (by omega) (by omega) M _ S1.out).mono ?_
        rintro e w2 ⟨k2, hk2, rfl, s2, t2⟩
        have S2 := hide s2
        have T2 := hide (T1.out.trans t2)
        clear s2 t2
        obtain ⟨B, hB⟩ : ∃ B, ((k2 : Int) == 1) = B := ⟨_, rfl⟩
        go_wp2_with fail
        refine (bool_run B _).mono ?_
        rintro e w3 ⟨v3, rfl, n3, o3⟩
        have FIN := hide (value_leaf_t (deep := deep) (N := N) hd n3 (.inl ⟨by cases B <;> simp, rfl, rfl⟩) (by decide) hMT S2.out T2.out o3)
        clear n3 o3
        go_wp2_with fail
        go_ret2
        exact FIN.out
      by_cases h23 : K = 2 ∨ K = 3
      · have CL := hide (fun (o : Obj) => next_run 6 sb M (wc.alloc o) (S1.out.old (Old.alloc (Old.refl _) _)) (by omega) (by omega))
        have hcw : sb < wc.heap.size := S1.out.lt
        obtain ⟨O, hO⟩ : ∃ O : Array Value, Hid (O = #[.int .i64 0, .int .i64 1, .int .i64 (-1), .int .i64 9223372036854775807, .int .i64 (-9223372036854775808), .int .i64 42]) := ⟨_, hide rfl⟩
        have HX := hide (show ∀ k : Nat, k < 6 → ∃ x, O[k]? = some (.int .i64 x) from fun k hk => by
          rw [hO.out]
          have h6 : k = 0 ∨ k = 1 ∨ k = 2 ∨ k = 3 ∨ k = 4 ∨ k = 5 := by omega
          rcases h6 with rfl | rfl | rfl | rfl | rfl | rfl <;> exact ⟨_, rfl⟩)
        rcases h23 with rfl | rfl
        all_goals
          go_wp2_with fail
          rw [← hO.out]
          refine (CL.out _).mono ?_
          rintro e w2 ⟨k2, hk2, rfl, s2, t2⟩
          obtain ⟨x, hx⟩ := HX.out k2 (by omega)
          have hcell : w2.cell? ⟨wc.heap.size, k2, none⟩ = some (.int .i64 x) := t2.cell ((cell_of_heap (heap_alloc_new wc _)).trans hx) (by show wc.heap.size ≠ sb; omega) (by show wc.heap.size ≠ sb; omega)
          have S2 := hide s2
          have T2 := hide (T1.out.trans (Two.after_old (Old.alloc (Old.refl _) _) t2))
          clear s2 t2 hx
          go_wp2_with fail
          refine (num_run x _).mono ?_
          rintro e w3 ⟨v3, rfl, n3, o3⟩
          have FIN := hide (value_leaf_t (deep := deep) (N := N) hd n3 (.inr (.inl ⟨rfl, rfl⟩)) (by decide) hMT S2.out T2.out o3)
          clear n3 o3 hcell
          go_wp2_with fail
          go_ret2
          exact FIN.out
      by_cases h4 : K = 4
      · subst h4
        go_wp2_with fail
        refine (word_run sb M _ S1.out).mono ?_
        rintro e w2 ⟨s, hs, rfl, s2, t2⟩
        have S2 := hide s2
        have T2 := hide (T1.out.trans t2)
        have hz := words_size s hs
        have hv := words_valid s hs
        have E := hide (show strT s = leafT 5 0 s by unfold strT; rw [if_pos hv])
        have HV := hide hv
        have CS := hide (str_run s w2 (by omega) (HT.out.old (Below.trans HW.out (T2.out.below (B := W0.heap.size) HW.out.size hsb hsb))))
        clear s2 t2 hv hs
        go_wp2_with fail
        refine CS.out.mono ?_
        rintro e w3 ⟨v3, rfl, n3, o3⟩
        rw [E.out] at n3
        have FIN := hide (value_leaf_t (deep := deep) (N := N) hd n3 (.inr (.inr ⟨rfl, rfl, HV.out⟩)) hz hMT S2.out T2.out o3)
        clear n3 o3
        go_wp2_with fail
        go_ret2
        exact FIN.out
      obtain ⟨hd6, hL0⟩ := hK5 (by omega)
      have hk0 : ((K : Int) == 0) = false := beq_eq_false_iff_ne.2 (by omega)
      have hk1 : ((K : Int) == 1) = false := beq_eq_false_iff_ne.2 (by omega)
      have hk2 : ((K : Int) == 2) = false := beq_eq_false_iff_ne.2 (by omega)
      have hk3 : ((K : Int) == 3) = false := beq_eq_false_iff_ne.2 (by omega)
      have hk4 : ((K : Int) == 4) = false := beq_eq_false_iff_ne.2 (by omega)
      have hNM : M.tail.length + 2 ≤ N.length := by
        have h1 := hL.out
        have h2 := hM.out
        rw [← h2] at h1 ⊢
        simp only [List.length_tail] at h1 ⊢
        omega
      have HIV := hide (HI.out (by omega))
      have hsw2 : sb < w.heap.size := hsw
      clear h0 h1 h23 h4 hK5 hMT hML
      go_wp2_with fail
      refine (CN.out 5 (by omega) (by omega) M _ S1.out).mono ?_
      rintro e w2 ⟨i0, hi0, rfl, s2, t2⟩
      have S2 := hide s2
      have T2 := hide (T1.out.trans t2)
      clear s2 t2
      go_wp2_with fail
      go_loopw [7, 8, 9] (fun kv lv iv wr => ∃ (i : Nat) (js : List J) (pl : List (List Nd)) (ks : List ByteArray) (N' : List Int), iv = .int .i64 i ∧ i ≤ 4 ∧ Hid (PartsOwn w.heap.size wr lv pl) ∧ Hid (TextsOwn w.heap.size wr kv ks) ∧ Hid (SeedIs sb wr N') ∧ Hid (KidsS deep N.length i js pl ks N'.length) ∧ Hid (Two sb sb w wr)) (fun _ _ iv _ => (intOf iv).toNat)
      case atStart => exact ⟨i0, [], [], [], M.tail, rfl, by omega, hide (PartsOwn.nil_ _ _), hide (own_nil _ _ _ _), S2, hide (KidsS.zero (by omega) (by omega) hNM), T2⟩
      case round =>
        obtain ⟨i, js, pl, ks, N', rfl, hi4, HP, HK, HS, HKS, HTW⟩ := hrel
        by_cases hpos : 0 < i
        · obtain ⟨i', hi'⟩ : ∃ i', Hid (i = i' + 1) := ⟨i - 1, hide (by omega)⟩
          have OW := hide (show Old W0 wr from Below.trans HW.out (HTW.out.below (B := W0.heap.size) HW.out.size hsb hsb))
          have CV := hide (HIV.out N' wr (by have := HKS.out.left; omega) HS.out OW.out)
          go_wp2_with fail
          refine CV.out.mono ?_
          rintro e w3 ⟨v3, t, j, N2, rfl, n3, m3, x3, d3, l3, le3, s3, t3⟩
          obtain ⟨P, hP⟩ : ∃ P, Hid (t.length = P) := ⟨_, hide rfl⟩
          obtain ⟨A3, c3, rfl, q3, r3⟩ := nodes_form n3 hP.out
          unfold maxLen at r3
          have M3 := hide m3
          have X3 := hide x3
          have F3 := hide (And.intro d3 (And.intro l3 le3))
          have N3 := hide (SlT.mono (SlT.old n3 (Old.alloc (Old.refl _) (.cells #[.slice A3 P c3] 25))) HTW.out.size)
          have P3 := hide ((HP.out.two t3 hsw2).old (Old.alloc (Old.refl _) (.cells #[.slice A3 P c3] 25)))
          have K3 := hide (own_old (own_two HK.out t3 hsw2) (Old.alloc (Old.refl _) (.cells #[.slice A3 P c3] 25)))
          have S3 := hide (s3.old (Old.alloc (Old.refl _) (.cells #[.slice A3 P c3] 25)))
          have T3 := hide ((HTW.out.trans t3).old (Old.alloc (Old.refl _) (.cells #[.slice A3 P c3] 25)))
          have hl1 : pl.length + 1 ≤ 4194304 := by have := HKS.out.len; omega
          have hl2 : ks.length + 1 ≤ 4194304 := by have h1 := HKS.out.len; have h2 := HKS.out.klen; omega
          clear n3 m3 x3 d3 l3 le3 s3 t3 CV
          go_upto_region 23 with (at_builtin; refine wpList_plain rfl (fun K hK => ?_); refine step_push_part _ _ _ rfl w.heap.size _ pl rfl P3.out _ _ (.slice A3 P c3) t rfl (by go_simp) N3.out hl1 T3.out.size ?_; intro v4 w4 own4 kept4; refine hK _ _ ?_; clear hK)
          have P4 := hide own4
          have S4 := hide (S3.out.below kept4.low hsw2)
          have T4 := hide (T3.out.then_below kept4.low)
          have K4 := hide (Kept.own kept4 K3.out (by decide))
          clear own4 kept4 P3 N3 K3
          have hb0 : (0 : Int) ≤ (i : Int) := by omega
          have hb1 : (i : Int) ≤ (i : Int) + 1 := by omega
          have hb2 : (i : Int) + 1 ≤ 5 := by omega
          have hlc := letter_cut (i := i) (by omega)
          have hls := letter_size i
          have hw1 : IntKind.i64.wrap ((i : Int) + 1) = (i : Int) + 1 := IntWalk.i64_in _ (by omega)
          go_region_held3 (fun w' => Two sb sb w w')
            (first | assumption | (exact (T4.out.old (Old.drew (Old.refl _)))) | (exact Two.old (by assumption) (Old.alloc (Old.refl _) _)) | (exact Two.trans (by assumption) (by assumption)) | (exact Two.then_below (by assumption) (Kept.low (by assumption))))
            (first
              | (go_at_call 68; refine (word_run sb N2 _ (S4.out.old (Old.drew (Old.refl _)))).mono ?_; rintro e w5 ⟨s, hs, rfl, s5, t5⟩; have z1 := words_size s hs; have z2 : ¬ 9223372036854775807 < s.size + (letterAt i).size := by omega)
              | (refine step_push_text _ _ _ rfl w.heap.size _ ks rfl (own_old (own_two (own_old K4.out (Old.drew (Old.refl _))) t5 hsw2) (Old.alloc (Old.refl _) _)) _ _ (s ++ letterAt i) rfl (by go_simp) hl2 (Two.size (w := w) (by assumption)) ?_; intro v6 w6 own6 kept6))
          have T6 := hide (show Two sb sb w w6 by assumption)
          have P6 := hide ((P4.out.old (Old.drew (Old.refl _))).two t5 hsw2)
          have P7 := hide (PartsOwn.kept (P6.out.old (Old.alloc (Old.refl _) (.cells #[.string (s ++ letterAt i)] 9))) kept6 (by decide) (by decide))
          have S6 := hide (SeedIs.below (s5.old (Old.alloc (Old.refl _) (.cells #[.string (s ++ letterAt i)] 9))) kept6.low hsw2)
          have K6 := hide own6
          have KN := hide (show KidsS deep N.length i' (js ++ [j]) (pl ++ [t]) (ks ++ [s ++ letterAt i]) N2.tail.length by
            have h := HKS.out
            rw [hi'.out] at h ⊢
            exact h.next M3.out X3.out F3.out.1 F3.out.2.1 F3.out.2.2 hs (tail_len N2))
          have hii : ((i : Int) - 1) = (i' : Int) := by have := hi'.out; omega
          have hi4' : i' ≤ 4 := by have := hi'.out; omega
          clear own6 kept6 s5 t5 hs z1 z2 hlc hls hw1
          go_wp2_with fail
          go_roundw
          case rel => exact ⟨i', _, _, _, _, by first | rfl | rw [hii], hi4', P7, K6, S6, KN, T6⟩
          case measure => simp [intOf]; omega
        · have hi0 : i = 0 := by omega
          subst hi0
          have OW := hide (show Old W0 wr from Below.trans HW.out (HTW.out.below (B := W0.heap.size) HW.out.size hsb hsb))
          have PA := hide HP.out.is
          have TB := hide (HT.out.old OW.out)
          have XP := hide HKS.out.texts
          by_cases h5 : K = 5
          · subst h5
            obtain ⟨m1, m2, m3, m4, m5⟩ := HKS.out.list hN
            have CL := hide (list_run _ pl _ 0 wr PA.out XP.out TB.out m2)
            have FIN := hide (fun (v : Value) (w' : World) (hv : NodesT wr.heap.size w' v (J.flat (.mk ⟨6, none_, 0, none_⟩ js))) (o : Old wr w') => (⟨v, _, _, _, rfl, hv.mono HTW.out.size, m1, m3, m5, m4, HKS.out.left, HS.out.old o, HTW.out.old o⟩ : ValueT deep sb w N (.returned (.tuple #[v, .bool true])) w'))
            clear m1 m2 m3 m4 m5
            go_wp2_with fail
            refine CL.out.mono ?_
            rintro e w8 ⟨v8, rfl, n8, o8⟩
            have F8 := hide (FIN.out v8 w8 n8 o8)
            clear n8 o8
            go_wp2_with fail
            go_ret2
            exact F8.out
          · have hk5 : ((K : Int) == 5) = false := beq_eq_false_iff_ne.2 (by omega)
            obtain ⟨m1, m2, m3, m4, m5⟩ := HKS.out.obj hN
            have KS5 := hide (show ∀ s ∈ ks, s.size ≤ maxLen from fun s hs => by have := HKS.out.key_size s hs; unfold maxLen; omega)
            have CU := hide (unlike_run _ ks wr (TextsOwn.is HK.out) (by have h1 := HKS.out.klen; have h2 := HKS.out.len; omega) HKS.out.nodup)
            have CO := hide (fun (w' : World) (o : Old wr w') (kv : Value) (hk : TextsIs w' kv ks) => obj_run kv _ ks pl _ 0 w' hk KS5.out (PA.out.old o) XP.out (TB.out.old o) m2)
            have FIN := hide (fun (v : Value) (w' : World) (hv : NodesT wr.heap.size w' v (J.flat (.mk ⟨7, none_, 0, none_⟩ (rekeys ks js)))) (o : Old wr w') => (⟨v, _, _, _, rfl, hv.mono HTW.out.size, m1, m3, m5, m4, HKS.out.left, HS.out.old o, HTW.out.old o⟩ : ValueT deep sb w N (.returned (.tuple #[v, .bool true])) w'))
            clear m1 m2 m3 m4 m5 h5
            go_wp2_with fail
            refine CU.out.mono ?_
            rintro e w7 ⟨v7, rfl, n7, o7⟩
            have C7 := hide (CO.out w7 o7 v7 (TextsOwn.is n7))
            have O7 := hide o7
            clear n7 o7
            go_wp2_with fail
            refine C7.out.mono ?_
            rintro e w8 ⟨v8, rfl, n8, o8⟩
            have F8 := hide (FIN.out v8 w8 (n8.mono O7.out.size) (Old.trans O7.out o8))
            clear n8 o8
            go_wp2_with fail
            go_ret2
            exact F8.out

theorem value_run_s (W0 : World) (hT : Tabs W0) (sb : Nat) (hsb : W0.heap.size ≤ sb) : ∀ (f deep : Nat), deep + f = 7 → ∀ (N : List Int) (w : World), N.length ≤ 150 → SeedIs sb w N → Old W0 w →
    Calls Tryd.prog 54 #[.pointer (some ⟨sb, 0, none⟩), .int .i64 deep] w (ValueT deep sb w N) := by
  intro f
  induction f with
  | zero => intro deep hd N w hN hS hW; exact value_step W0 hT sb hsb deep (by omega) (fun h => by omega) N w hN hS hW
  | succ f ih =>
    intro deep hd N w hN hS hW
    exact value_step W0 hT sb hsb deep (by omega) (fun _ N w h1 h2 h3 => ih (deep + 1) (by omega) N w h1 h2 h3) N w hN hS hW
end Go.Proofs.YtkefhhnbkhijgaaDoor
