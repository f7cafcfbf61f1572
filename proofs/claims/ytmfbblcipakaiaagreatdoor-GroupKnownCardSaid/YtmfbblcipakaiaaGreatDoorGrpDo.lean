/- GroupDelta. -/
import Derived.Test.YtmfbblcipakaiaaGreatDoorGrpJ
import Derived.Test.YtmfbblcipakaiaaGreatDoorGrpHw
/-! ### GroupDelta. -/
namespace Go.Proofs.YtmfbblcipakaiaaGreatDoor
open Go.RowKit

set_option maxRecDepth 100000 in
set_option maxHeartbeats 4000000 in
theorem delta_law (k0 k1 : Int) (v : Value) (ls : List (List Ent)) (w : World) (hl : ListsIs w v ls) (hf : ∀ l ∈ ls, EFits l) (hp : PowTab w) :
    Calls Tryz.prog 7 #[.agg #[.int .i64 k0, .int .i64 k1], v] w fun e w' => e = .returned (.bool true) ∧ Old w w' := by
  obtain ⟨vs, hvl, ⟨A, ca, rfl, hla, hma, hb⟩, hents⟩ := hl
  unfold maxLen at hma
  have CM := hide (fun w' => made_run k0 k1 w')
  have hK := brg_lt k0 (n := 4) (by omega)
  have hS := brg_lt k1 (n := 4) (by omega)
  obtain ⟨K, hKe⟩ : ∃ K, K = brg k0 4 := ⟨_, rfl⟩
  obtain ⟨S, hSe⟩ : ∃ S, S = brg k1 4 := ⟨_, rfl⟩
  rw [← hKe, ← hSe] at CM
  rw [← hKe] at hK
  rw [← hSe] at hS
  clear hKe hSe
  have HB := hide hb
  have HE := hide hents
  have HF := hide hf
  have HP := hide hp
  clear hb hents hf hp
  go_enter Tryz.func7, Tryz.ntmps7
  go_wp2_with fail
  refine (CM.out _).mono ?_
  rintro e w1 ⟨g, bm, rfl, hg, hbm, hG, ho⟩
  have S0 : Hid (LSt w w1 g bm K S 0 gZero) := hide (LSt.made HP.out ((Old.refl w).alloc _) hK hS hg hbm hG ho)
  clear hg hbm hG ho CM
  go_wp2_with fail
  go_loopw [6] (fun i wr => ∃ (k : Nat) (f : Gf), i = .int .i64 k ∧ k ≤ ls.length ∧ k ≤ 8 ∧ Hid (LSt w wr g bm K S (12 * k) f)) (fun i _ => ls.length - (intOf i).toNat)
  case atStart => exact ⟨0, gZero, rfl, by omega, by omega, S0⟩
  case round =>
    obtain ⟨k, f, rfl, hk, hk8, HS⟩ := hrel
    clear S0
    by_cases hlt : k < ls.length
    · by_cases h8 : k < 8
      · have hkv : k < vs.length := by omega
        have hEk := hide (HE.out k hlt hkv)
        have hFk := hide (cutEs_fine (HF.out ls[k] (List.getElem_mem hlt)))
        have hne : vs ≠ [] := fun e => by rw [e] at hkv; simp at hkv
        obtain ⟨b, off, rfl, hcs⟩ := HB.out hne
        have hck := hcs k vs[k] (List.getElem?_eq_getElem hkv)
        have hx := hide (fun w' (o : Old w w') => o.cell hck)
        obtain ⟨l, hlE⟩ : ∃ l, l = cutEs ls[k] := ⟨_, rfl⟩
        have hlen : l.length ≤ 12 := by rw [hlE]; exact cutEs_len _
        rw [← hlE] at hFk
        clear hcs hck hne
        obtain ⟨n, hn⟩ : ∃ n, appErr K S f l = n := ⟨_, rfl⟩
        go_wp2_with fail
        refine (lst_rows HS.out (by omega)).mono ?_
        rintro e w2 ⟨Aw, cw, zw, rfl, -, -, iw, rw2, nw, ow⟩
        have S2 := hide (HS.out.step ow)
        have IW := hide iw
        have RW := hide rw2
        have c1 := hx.out _ S2.out.old
        have CC := hide (lst_cut _ _ (hEk.out.old S2.out.old))
        rw [← hlE] at CC
        have hn' := hide hn
        clear iw rw2 ow hEk hx HS hlE HB hn
        go_wp2_with fail
        refine CC.out.mono ?_
        rintro e w3 ⟨Ac, cc, rfl, -, -, ic, oc⟩
        have IC := hide ic
        have OC := hide oc
        clear ic oc CC c1
        go_wp2_with fail
        refine (lst_apply _ l n (S2.out.step OC.out) IC.out (by omega) (by omega) hFk.out hn'.out).mono ?_
        rintro e w4 ⟨Ao, co, z, rfl, -, -, io, hd, hz, s4, t4⟩
        have IOH := hide io
        have HD := hide hd
        have S4 := hide (s4.mono (n := 12 * (k + 1)) (by omega))
        have IW4 := hide (t4.items (IW.out.old OC.out))
        clear io hd s4 t4 IW IC S2 OC
        go_wp2_with fail
        refine (lst_rows S4.out (by omega)).mono ?_
        rintro e w5 ⟨An, cn, zn, rfl, -, -, inn, rn, nn, on⟩
        have RN := hide rn
        have IN5 := hide inn
        have IW5 := hide (IW4.out.old on)
        have IO5 := hide (IOH.out.old on)
        have S5 := hide (S4.out.step on)
        obtain ⟨vN, hvN, ⟨AN, cN', hAN, hN1, hN2, hbN⟩, -⟩ := id inn
        injection hAN with hA1 _ hA3
        subst hA1
        subst hA3
        have HBN := hide hbN
        clear rn inn on IW4 IOH S4 hbN
        by_cases h0 : n = 0
        · subst h0
          have hA := rows_add RW.out HD.out RN.out
          have CA := hide (zset_Add _ _ zw z w5 IW5.out IO5.out (delta_fine RW.out.delta (by omega) (by omega) (by omega)) (delta_fine HD.out (by omega) (by omega) (by omega)))
          rw [hA.1, hA.2] at CA
          clear hA
          go_wp2_with fail
          refine CA.out.mono ?_
          rintro e w6 ⟨v6, rfl, is6, o6⟩
          have I6 := hide is6.is
          obtain ⟨A6, c6, u6, rfl, -⟩ := id is6.is.open_
          have O6 := hide o6
          clear is6 o6 CA
          go_wp2_with fail
          refine (same_true _ _ zn zn _ I6.out (IN5.out.old O6.out) rfl).mono ?_
          rintro e w7 ⟨rfl, o7⟩
          have O7 := hide (O6.out.trans o7)
          clear o7 O6 I6
          have CK := hide (zset_Check _ z w7 (IO5.out.old O7.out))
          rw [chk_ok HD.out.ok] at CK
          go_wp2_with fail
          refine CK.out.mono ?_
          rintro e w8 ⟨rfl, o8⟩
          have O8 := hide (O7.out.trans o8)
          clear o8 O7 CK
          go_wp2_with fail
          go_loopw [13] (fun i wz => ∃ j : Nat, i = .int .i64 j ∧ j ≤ zn.length ∧ Hid (Old w5 wz)) (fun i _ => zn.length - (intOf i).toNat)
          case atStart => exact ⟨0, rfl, by omega, O8⟩
          case round =>
            obtain ⟨j, rfl, hj, OZ⟩ := hrel
            clear O8
            by_cases hjt : j < zn.length
            · have hjv : j < vN.length := by omega
              obtain ⟨q1, q2⟩ := itemVals_get vN zn j hjt hjv
              obtain ⟨bN, oN, rfl, hcN⟩ := HBN.out (by intro e; rw [e] at q1; simp at q1)
              have h1 := rows_one RN.out zn[j] (List.getElem_mem hjt)
              rw [h1] at q2
              have cj := OZ.out.cell (hcN _ _ q2)
              rw [← Nat.add_assoc] at cj
              clear q1 q2 hcN h1
              go_wp2_with fail
              go_roundw
              case rel => exact ⟨j + 1, by go_num, by omega, OZ⟩
              case measure => simp [intOf]; omega
            · have S9 := hide (S5.out.step OZ.out)
              go_wp2_with fail
              go_roundw
              case rel => exact ⟨k + 1, _, by go_num, by omega, by omega, S9⟩
              case measure => simp [intOf]; omega
        · have hF : appF K S f l = f := by unfold appF; rw [if_neg (by rw [hn'.out]; exact h0)]
          rw [hF] at HD RN S5
          have hz0 : z = [] := delta_same HD.out
          subst hz0
          have hzz : zw = zn := RW.out.unique RN.out
          subst hzz
          have hn2 := appErr_or K S f l
          rw [hn'.out] at hn2
          rcases hn2 with rfl | rfl | rfl
          · exact absurd rfl h0
          all_goals
            clear h0 hn' hF
            go_wp2_with fail
            refine (same_true _ _ zw zw _ IW5.out IN5.out rfl).mono ?_
            rintro e w6 ⟨rfl, o6⟩
            have S6 := hide (S5.out.step o6)
            clear o6 S5
            go_wp2_with fail
            go_roundw
            case rel => exact ⟨k + 1, _, by go_num, by omega, by omega, S6⟩
            case measure => simp [intOf]; omega
      · go_wp2_with fail
        refine (works_run _ HS.out.pow').mono ?_
        rintro e w2 ⟨rfl, o2⟩
        have O2 := hide (HS.out.old.trans o2)
        clear o2
        go_wp2_with fail
        go_ret
        exact ⟨rfl, O2.out⟩
    · go_wp2_with fail
      refine (works_run _ HS.out.pow').mono ?_
      rintro e w2 ⟨rfl, o2⟩
      have O2 := hide (HS.out.old.trans o2)
      clear o2
      go_wp2_with fail
      go_ret
      exact ⟨rfl, O2.out⟩
end Go.Proofs.YtmfbblcipakaiaaGreatDoor

/-! ### GroupDoes. -/
namespace Go.Proofs.YtmfbblcipakaiaaGreatDoor
open Go.RowKit

/-- the program's groups (of f1) and the document's (of f2), and what lies where -/
structure DSt (w0 w : World) (g bm h K S m1 m2 : Nat) (f1 f2 : Gf) (B : Nat → Prop) (ks : List (List Cell)) (B2 : Nat → Prop) : Prop where
  pow : PowTab w0
  old : Old w0 w
  g0 : w0.heap.size ≤ g
  b0 : w0.heap.size ≤ bm
  h0 : w0.heap.size ≤ h
  gh : g ≠ h
  bh : bm ≠ h
  k16 : K ≤ 16
  s16 : S ≤ 16
  gs : GIs w g bm K S m1 f1 B
  hs : HSt w h K S m2 f2 ks B2
  nBh : ¬ B h
  nBb : ¬ B2 bm
section
variable {w0 w w' : World} {g bm h K S m1 m2 : Nat} {f1 f2 : Gf} {B B2 : Nat → Prop} {ks : List (List Cell)}
theorem DSt.step (D : DSt w0 w g bm h K S m1 m2 f1 f2 B ks B2) (o : Old w w') : DSt w0 w' g bm h K S m1 m2 f1 f2 B ks B2 :=
  ⟨D.pow, D.old.trans o, D.g0, D.b0, D.h0, D.gh, D.bh, D.k16, D.s16, D.gs.old o, D.hs.old o, D.nBh, D.nBb⟩
theorem DSt.mono (D : DSt w0 w g bm h K S m1 m2 f1 f2 B ks B2) {n1 n2 : Nat} (h1 : m1 ≤ n1) (h2 : m2 ≤ n2) : DSt w0 w g bm h K S n1 n2 f1 f2 B ks B2 :=
  ⟨D.pow, D.old, D.g0, D.b0, D.h0, D.gh, D.bh, D.k16, D.s16, D.gs.mono h1, D.hs.mono h2, D.nBh, D.nBb⟩
theorem DSt.spx (D : DSt w0 w g bm h K S m1 m2 f1 f2 B ks B2) {lo hi : Nat} (c : Chg (fun b => lo ≤ b ∧ b < hi) w w') (hlo : w0.heap.size ≤ lo) (hg : g < lo) (hb : bm < lo) (hh : h < lo) (hB : ∀ b, B b → ¬ (lo ≤ b ∧ b < hi)) (hB2 : ∀ b, B2 b → ¬ (lo ≤ b ∧ b < hi)) :
    DSt w0 w' g bm h K S m1 m2 f1 f2 B ks B2 :=
  ⟨D.pow, Below.trans D.old (Chg.below c D.old.size (fun n hn e => by omega)), D.g0, D.b0, D.h0, D.gh, D.bh, D.k16, D.s16,
    D.gs.chg c (by omega) (by omega) (fun b _ hb => hB b hb), D.hs.chg c (by omega) (fun b _ hb => hB2 b hb), D.nBh, D.nBb⟩
theorem DSt.tab (D : DSt w0 w g bm h K S m1 m2 f1 f2 B ks B2) : PowTab w := D.pow.old D.old
theorem DSt.gl (D : DSt w0 w g bm h K S m1 m2 f1 f2 B ks B2) : g < w.heap.size ∧ bm < w.heap.size ∧ h < w.heap.size := ⟨D.gs.gLt, D.gs.lt, D.hs.is.lt⟩
def DAp (w0 w : World) (g bm h K S m1 m2 : Nat) (f1 f2 : Gf) (B : Nat → Prop) (ks : List (List Cell)) (B2 : Nat → Prop) (l : List Ent) (e : Ending) (w' : World) : Prop :=
  ∃ (h1 : Nat) (A : Option Addr) (c : Nat) (z : List Item), e = .returned (.tuple #[.slice A z.length c, .int .i64 (appErr K S f1 l)]) ∧ w.heap.size ≤ h1 ∧ h1 ≤ w'.heap.size ∧ ItemsT 60 65 h1 w' (.slice A z.length c) z ∧ Delta K S f1 (appF K S f1 l) z ∧
    DSt w0 w' g bm h K S (m1 + l.length) m2 (appF K S f1 l) f2 (fun b => B b ∨ (w.heap.size ≤ b ∧ b < h1)) ks B2 ∧ Chg (fun b => b = bm) w w'
theorem itemsT_form {lo : Nat} {w : World} {v : Value} {l : List Item} (h : ItemsT 60 65 lo w v l) : ∃ A c, v = .slice A l.length c := by
  obtain ⟨vs, -, ⟨A, c, rfl, -⟩, -⟩ := h
  exact ⟨A, c, rfl⟩
theorem d_apply (D : DSt w0 w g bm h K S m1 m2 f1 f2 B ks B2) (v : Value) (l : List Ent) (hl : EntsIs w v l) (hm : m1 ≤ 10000) (hn : l.length ≤ 1000) (hf : ∀ e ∈ l, EntFine e) :
    Calls Tryz.prog 12 #[.pointer (some ⟨g, 0, none⟩), v] w (DAp w0 w g bm h K S m1 m2 f1 f2 B ks B2 l) := by
  have hk := D.k16
  have h3 := D.s16
  refine (apply_run g bm K S m1 f1 B v l w D.gs (by omega) (by omega) (by omega) hl (by omega) hf D.tab).mono ?_
  rintro e w' ⟨h1, out, z, rfl, hh1, hh2, hi, hd, hz, hG, hc⟩
  obtain ⟨A, c, rfl⟩ := itemsT_form hi
  have hb := D.b0
  have hgl := D.gl
  refine ⟨h1, A, c, z, rfl, hh1, hh2, hi, hd, ⟨D.pow, Below.trans D.old (Chg.below (lo := w0.heap.size) hc D.old.size (fun n hn e => by omega)), D.g0, D.b0, D.h0, D.gh, D.bh, D.k16, D.s16, hG, D.hs.chg hc (fun e => D.bh e.symm) (fun b _ hb e => D.nBb (e ▸ hb)), ?_, D.nBb⟩, hc⟩
  rintro (hB | ⟨hB, _⟩)
  · exact D.nBh hB
  · omega
def DHp (w0 w : World) (g bm h K S m1 m2 : Nat) (f1 f2 : Gf) (B : Nat → Prop) (B2 : Nat → Prop) (l : List Ent) (e : Ending) (w' : World) : Prop :=
  ∃ (A : Option Addr) (c : Nat) (z : List Item) (ks' : List (List Cell)) (B2' : Nat → Prop), e = .returned (.tuple #[.slice A z.length c, .int .i64 (appErr K S f2 l)]) ∧ ItemsT 60 65 w.heap.size w' (.slice A z.length c) z ∧ Delta K S f2 (appF K S f2 l) z ∧
    DSt w0 w' g bm h K S m1 (m2 + l.length) f1 (appF K S f2 l) B ks' B2' ∧ (∀ b, B2' b → B2 b ∨ w.heap.size ≤ b) ∧ Chg (fun b => b = h) w w'
theorem d_happly (D : DSt w0 w g bm h K S m1 m2 f1 f2 B ks B2) (v : Value) (l : List Ent) (hl : EntsIs w v l) (hm : m2 ≤ 10000) (hn : l.length ≤ 1000) (hf : ∀ e ∈ l, EntFine e) :
    Calls Tryz.prog 13 #[.pointer (some ⟨h, 0, none⟩), v] w (DHp w0 w g bm h K S m1 m2 f1 f2 B B2 l) := by
  have hk := D.k16
  have h3 := D.s16
  refine (happly_run h K S m2 f2 ks B2 v l w (hide ⟨D.hs, hl, hf, by omega, by omega, by omega, by omega⟩)).mono ?_
  rintro e w' ⟨out, z, ks', B', rfl, hi, hd, hH, hB', hc⟩
  obtain ⟨A, c, rfl⟩ := itemsT_form hi
  have hb := D.h0
  have hgl := D.gl
  refine ⟨A, c, z, ks', B', rfl, hi, hd, ⟨D.pow, Below.trans D.old (Chg.below (lo := w0.heap.size) hc D.old.size (fun n hn e => by omega)), D.g0, D.b0, D.h0, D.gh, D.bh, D.k16, D.s16, D.gs.chg hc D.gh D.bh (fun b _ hb e => D.nBh (e ▸ hb)), hH, D.nBh, fun hb => ?_⟩, hB', hc⟩
  rcases hB' _ hb with hb | hb
  · exact D.nBb hb
  · omega
def DRw (w : World) (K S : Nat) (f : Gf) (e : Ending) (w' : World) : Prop :=
  ∃ (A : Option Addr) (c : Nat) (z : List Item), e = .returned (.slice A z.length c) ∧ ItemsT 60 65 w.heap.size w' (.slice A z.length c) z ∧ RowsZ K S f z ∧ Old w w'
theorem d_rows (D : DSt w0 w g bm h K S m1 m2 f1 f2 B ks B2) (hm : m1 ≤ 10000) : Calls Tryz.prog 18 #[.pointer (some ⟨g, 0, none⟩)] w (DRw w K S f1) := by
  have hk := D.k16
  have h3 := D.s16
  refine (rows_run g bm K S m1 f1 B w D.gs (by omega) (by omega) (by omega)).mono ?_
  rintro e w' ⟨v, z, rfl, hi, hz, hn, ho⟩
  obtain ⟨A, c, rfl⟩ := itemsT_form hi
  exact ⟨A, c, z, rfl, hi, hz, ho⟩
theorem d_hrows (D : DSt w0 w g bm h K S m1 m2 f1 f2 B ks B2) (hm : m2 ≤ 10000) : Calls Tryz.prog 19 #[.pointer (some ⟨h, 0, none⟩)] w (DRw w K S f2) := by
  have hk := D.k16
  have h3 := D.s16
  refine (hrows_run h K S m2 f2 ks B2 w D.hs (by omega) (by omega) (by omega)).mono ?_
  rintro e w' ⟨v, z, rfl, hi, hz, ho⟩
  obtain ⟨A, c, rfl⟩ := itemsT_form hi
  exact ⟨A, c, z, rfl, hi, hz, ho⟩
end
theorem eq_true_T {lo lo' : Nat} {w : World} {va vb : Value} {a b : List Item} (ha : ItemsT 60 65 lo w va a) (hb : ItemsT 60 65 lo' w vb b) (hab : a = b) :
    Calls Tryz.prog 16 #[va, vb] w fun e w' => e = .returned (.bool true) ∧ Old w w' := by
  subst hab
  exact eq_true va vb a w ha.is hb.is
/-- what the loop keeps -/
def DLp (w0 : World) (g bm h K S m : Nat) (w : World) : Prop := ∃ f B ks B2, DSt w0 w g bm h K S m m f f B ks B2

set_option maxRecDepth 100000 in
set_option maxHeartbeats 4000000 in
theorem does_law (k0 k1 : Int) (v : Value) (ls : List (List Ent)) (w : World) (hl : ListsIs w v ls) (hf : ∀ l ∈ ls, EFits l) (hp : PowTab w) :
    Calls Tryz.prog 3 #[.agg #[.int .i64 k0, .int .i64 k1], v] w fun e w' => e = .returned (.bool true) ∧ Old w w' := by
  obtain ⟨vs, hvl, ⟨A, ca, rfl, hla, hma, hb⟩, hents⟩ := hl
  unfold maxLen at hma
  have HB := hide hb
  have HE := hide hents
  have HF := hide hf
  have HP := hide hp
  have CN := hide (fun w' => new_run k0 k1 w')
  have CH := hide (fun w' => hnew_run k0 k1 w')
  clear hb hents hf hp
  go_enter Tryz.func3, Tryz.ntmps3
  go_wp2_with fail
  by_cases hk : 0 ≤ k0 ∧ k0 ≤ 16 ∧ 0 ≤ k1 ∧ k1 ≤ 16
  · refine (CN.out _).mono ?_
    rintro e w1 ⟨ho1, ⟨hn, -⟩ | ⟨-, g, bm, rfl, hg, hbm, hG⟩⟩
    · exact absurd hk hn
    have O1 := hide (((Old.refl w).alloc _).trans ho1)
    have hgw := hide (show w.heap.size ≤ g ∧ w.heap.size ≤ bm by simp at hg hbm; omega)
    have HG := hide hG
    have z0 := ho1.cell (p := ⟨w.heap.size, 0, none⟩) (v := .int .i64 k0) (by go_simp)
    have z1 := ho1.cell (p := ⟨w.heap.size, 1, none⟩) (v := .int .i64 k1) (by go_simp)
    clear ho1 hg hbm hG CN
    go_wp2_with fail
    refine (CH.out _).mono ?_
    rintro e w2 ⟨ho2, ⟨hn, -⟩ | ⟨-, h, rfl, hh, hH⟩⟩
    · exact absurd hk hn
    have HS0 : Hid (DLp w g bm h k0.toNat k1.toNat (12 * 0) w2) := hide (by
      have hh1 := HG.out.gLt
      have hh2 := HG.out.lt
      have hos := O1.out.size
      have hgw' := hgw.out
      exact ⟨gZero, fun _ => False, [], fun _ => False, HP.out, O1.out.trans ho2, hgw'.1, hgw'.2, by omega, by omega, by omega, by omega, by omega, HG.out.old ho2, ⟨hH, List.nodup_nil, by simp, fun _ _ _ _ => rfl, by simp, GFit.zero _⟩, fun e => e, fun e => e⟩)
    obtain ⟨K, hKe⟩ : ∃ K, k0.toNat = K := ⟨_, rfl⟩
    obtain ⟨S, hSe⟩ : ∃ S, k1.toNat = S := ⟨_, rfl⟩
    rw [hKe, hSe] at HS0
    clear hKe hSe hk HG hgw O1 ho2 hh hH CH z0 z1
    go_wp2_with fail
    go_loopw [9] (fun i wr => ∃ k : Nat, i = .int .i64 k ∧ k ≤ ls.length ∧ k ≤ 8 ∧ Hid (DLp w g bm h K S (12 * k) wr)) (fun i _ => ls.length - (intOf i).toNat)
    case atStart => exact ⟨0, rfl, by omega, by omega, HS0⟩
    case round =>
      obtain ⟨k, rfl, hk, hk8, HS⟩ := hrel
      clear HS0
      by_cases hlt : k < ls.length
      · by_cases h8 : k < 8
        · obtain ⟨f, B, ks, B2, hD⟩ := HS.out
          have D := hide hD
          clear hD HS
          have hkv : k < vs.length := by omega
          have hEk := hide (HE.out k hlt hkv)
          have hFk := hide (cutEs_fine (HF.out ls[k] (List.getElem_mem hlt)))
          have hne : vs ≠ [] := fun e => by rw [e] at hkv; simp at hkv
          obtain ⟨b, off, rfl, hcs⟩ := HB.out hne
          have hck := hcs k vs[k] (List.getElem?_eq_getElem hkv)
          have hx := hide (fun w' (o : Old w w') => o.cell hck)
          have HCL := hide (fun (w' : World) (o : Old w w') => cut_run vs[k] ls[k] w' (hEk.out.old o))
          obtain ⟨l, hlE⟩ : ∃ l, cutEs ls[k] = l := ⟨_, rfl⟩
          have hlen : l.length ≤ 12 := by rw [← hlE]; exact cutEs_len _
          rw [hlE] at hFk HCL
          clear hcs hck hne hlE
          have c1 := hx.out _ D.out.old
          have CC := hide (HCL.out wr D.out.old)
          go_wp2_with fail
          refine CC.out.mono ?_
          rintro e w1 ⟨va, rfl, hin, ho1⟩
          have D1 := hide (D.out.step ho1)
          have HIN := hide hin
          have hlo := hide D.out.gl
          have O1 := hide ho1
          obtain ⟨Ai, ci, -, -, rfl, -⟩ := id hin.is.open_
          have CA := hide (d_apply D1.out _ l hin.is (by omega) (by omega) hFk.out)
          clear hin ho1 CC c1
          go_wp2_with fail
          refine CA.out.mono ?_
          rintro e w2 ⟨h1, Aa, cc, za, rfl, hh1, hh2, ia, da, d2, ch2⟩
          have hlow := hide (show ∀ b, B b → b < wr.heap.size from D.out.gs.low)
          have hlow2 := hide (show ∀ b, B2 b → b < wr.heap.size from D.out.hs.is.low)
          obtain ⟨n, hn⟩ : ∃ n, appErr K S f l = n := ⟨_, rfl⟩
          obtain ⟨f', hf'⟩ : ∃ g, appF K S f l = g := ⟨_, rfl⟩
          rw [hf'] at d2 da
          rw [hn]
          have HN := hide hn
          have HF' := hide hf'
          have D2 := hide d2
          have IA := hide ia
          have DA := hide da
          have CH2 := hide ch2
          have HH1 := hide (show w1.heap.size ≤ h1 ∧ h1 ≤ w2.heap.size from ⟨hh1, hh2⟩)
          have c1 := hx.out _ d2.old
          have CC := hide (HCL.out w2 d2.old)
          clear hn hf' d2 ia da ch2 hh1 hh2 CA D1
          go_wp2_with fail
          refine CC.out.mono ?_
          rintro e w3 ⟨vb, rfl, hin3, ho3⟩
          have CO := hide (own_run vb l w3 hin3.is (by omega))
          have D3 := hide (D2.out.step ho3)
          have O3 := hide ho3
          clear hin3 ho3 CC c1
          go_wp2_with fail
          refine CO.out.mono ?_
          rintro e w4 ⟨vd, rfl, hin4, ho4⟩
          have D4 := hide (D3.out.step ho4)
          have O4 := hide (O3.out.trans ho4)
          have CHA := d_happly D4.out vd l hin4 (by omega) (by omega) hFk.out
          unfold DHp at CHA
          rw [HF'.out, HN.out] at CHA
          have CHA := hide CHA
          clear hin4 ho4 CO D3
          go_wp2_with fail
          refine CHA.out.mono ?_
          rintro e w5 ⟨Ab, cb, zb, ks', B2', rfl, ib, db, d5, hb2, ch5⟩
          have D5 := hide d5
          have IB := hide ib
          have DB := hide db
          have CH5 := hide ch5
          have HB2 := hide hb2
          have hsz := hide (show w1.heap.size ≤ w2.heap.size ∧ w2.heap.size ≤ w4.heap.size ∧ wr.heap.size ≤ w1.heap.size from ⟨CH2.out.size, O4.out.size, O1.out.size⟩)
          have CH15 := hide (show Chg (fun b => b < wr.heap.size) w1 w5 from
            ((CH2.out.step O4.out).trans ch5 (Z := fun b => b = bm ∨ b = h) (fun _ _ e => .inl e) (fun _ _ e => .inr e)).mono (fun b _ e => by
              have := hlo.out
              rcases e with rfl | rfl <;> omega))
          have CW := hide (wreck_run wr.heap.size _ l w1 w5 HIN.out (Kin.of_chg CH15.out (fun b hb _ e => by omega)))
          clear d5 ib db ch5 hb2 CHA D4
          go_wp2_with fail
          refine CW.out.mono ?_
          rintro e w6 ⟨rfl, hsp⟩
          have D6 := hide (D5.out.spx hsp.chg D.out.old.size hlo.out.1 hlo.out.2.1 hlo.out.2.2 (fun b hb e => by
            have h1' := HH1.out
            rcases hb with hb | hb
            · have := hlow.out b hb; omega
            · omega) (fun b hb e => by
            have h1' := hsz.out
            rcases HB2.out b hb with hb | hb
            · have := hlow2.out b hb; omega
            · omega))
          have CH25 := hide (show Chg (fun b => b < wr.heap.size) w2 w5 from
            ((Chg.of_old O4.out).trans CH5.out (Z := fun b => b = h) (X := fun _ => False) (fun _ _ e => e.elim) (fun _ _ e => e)).mono (fun b _ e => by
              have := hlo.out
              omega))
          have CH26 := hide (show Chg (fun b => b < w1.heap.size) w2 w6 from
            CH25.out.trans hsp.chg (fun b _ e => by have := hsz.out; omega) (fun b _ e => e.2))
          have IA6 := hide (IA.out.chg CH26.out (fun b cs T f hb _ e => by have := HH1.out; omega))
          have IB6 := hide (IB.out.chg hsp.chg (fun b cs T f hb _ e => by have := hsz.out; omega))
          have CE := hide (eq_true_T IA6.out IB6.out (DA.out.unique DB.out))
          clear hsp CW IB DB CH5 CH15 CH25 IB6 D5
          go_wp2_with fail
          refine CE.out.mono ?_
          rintro e w7 ⟨rfl, ho7⟩
          have D7 := hide (D6.out.step ho7)
          have CH27 := hide (CH26.out.step ho7)
          have CS := hide (spoil_in h1 _ za w2 w7 IA.out (Kin.of_chg CH27.out (fun b hb _ e => by have := HH1.out; omega)))
          clear ho7 CE D6 CH26 IA6
          go_wp2_with fail
          refine CS.out.mono ?_
          rintro e w8 ⟨rfl, hsp⟩
          have D8 := hide (D7.out.spx hsp.chg (by have := D.out.old.size; have := hsz.out; have := HH1.out; omega) (by have := hlo.out; have := hsz.out; have := HH1.out; omega) (by have := hlo.out; have := hsz.out; have := HH1.out; omega) (by have := hlo.out; have := hsz.out; have := HH1.out; omega) (fun b hb e => by
            have h1' := HH1.out
            have h2' := hsz.out
            rcases hb with hb | hb
            · have := hlow.out b hb; omega
            · omega) (fun b hb e => by
            have h1' := hsz.out
            have h2' := HH1.out
            rcases HB2.out b hb with hb | hb
            · have := hlow2.out b hb; omega
            · omega))
          have CR := hide (d_rows D8.out (by omega))
          clear hsp CS D7 CH27 IA DA
          go_wp2_with fail
          refine CR.out.mono ?_
          rintro e w9 ⟨Ar, cr, zr, rfl, ir, rr, ho9⟩
          have D9 := hide (D8.out.step ho9)
          have IR := hide ir
          have RR := hide rr
          have O9 := hide ho9
          have CHR := hide (d_hrows D9.out (by omega))
          clear ir rr ho9 CR
          go_wp2_with fail
          refine CHR.out.mono ?_
          rintro e w10 ⟨Ah, chh, zh, rfl, ih, rh, ho10⟩
          have CE2 := hide (eq_true_T (IR.out.old ho10) ih (RR.out.unique rh))
          have O10 := hide ho10
          clear ih rh ho10 CHR
          go_wp2_with fail
          refine CE2.out.mono ?_
          rintro e w11 ⟨rfl, ho11⟩
          have O11 := hide (O10.out.trans ho11)
          have D11 := hide (D9.out.step O11.out)
          have CS2 := hide (spoil_in w8.heap.size _ zr w9 w11 IR.out (Kin.of_chg (Chg.of_old (X := fun _ => False) O11.out) (fun _ _ _ e => e)))
          clear ho11 CE2 O10 D9
          go_wp2_with fail
          refine CS2.out.mono ?_
          rintro e w12 ⟨rfl, hsp⟩
          have hl8 := D8.out.gl
          have D12 := hide (D11.out.spx hsp.chg D8.out.old.size hl8.1 hl8.2.1 hl8.2.2 (fun b hb e => by have := D8.out.gs.low b hb; omega) (fun b hb e => by have := D8.out.hs.is.low b hb; omega))
          have HL : Hid (DLp w g bm h K S (12 * (k + 1)) w12) := hide ⟨f', _, ks', B2', D12.out.mono (by omega) (by omega)⟩
          clear hsp CS2 hl8
          go_wp2_with fail
          go_roundw
          case rel => exact ⟨k + 1, by go_num, by omega, by omega, HL⟩
          case measure => simp [intOf]; omega
        · obtain ⟨f, B, ks, B2, hD⟩ := HS.out
          have CW := hide (works_run wr hD.tab)
          have OD := hide hD.old
          clear hD HS
          go_wp2_with fail
          refine CW.out.mono ?_
          rintro e w2 ⟨rfl, o2⟩
          have O2 := hide (OD.out.trans o2)
          clear o2
          go_wp2_with fail
          go_ret
          exact ⟨rfl, O2.out⟩
      · obtain ⟨f, B, ks, B2, hD⟩ := HS.out
        have CW := hide (works_run wr hD.tab)
        have OD := hide hD.old
        clear hD HS
        go_wp2_with fail
        refine CW.out.mono ?_
        rintro e w2 ⟨rfl, o2⟩
        have O2 := hide (OD.out.trans o2)
        clear o2
        go_wp2_with fail
        go_ret
        exact ⟨rfl, O2.out⟩
  · have CN2 := hide (fun w' => (CN.out w').mono (R' := fun e w'' => Old w' w'' ∧ e = .returned (.tuple #[.pointer none, .int .i64 2])) (fun e w'' hh => by
      rcases hh with ⟨q, ⟨-, q2⟩ | ⟨q2, -⟩⟩
      · exact ⟨q, q2⟩
      · exact absurd q2 hk))
    have CH2 := hide (fun w' => (CH.out w').mono (R' := fun e w'' => Old w' w'' ∧ e = .returned (.tuple #[.pointer none, .int .i64 2])) (fun e w'' hh => by
      rcases hh with ⟨q, ⟨-, q2⟩ | ⟨q2, -⟩⟩
      · exact ⟨q, q2⟩
      · exact absurd q2 hk))
    clear CN CH hk
    refine (CN2.out _).mono ?_
    rintro e w1 ⟨ho1, rfl⟩
    have O1 := hide (((Old.refl w).alloc _).trans ho1)
    have z0 := ho1.cell (p := ⟨w.heap.size, 0, none⟩) (v := .int .i64 k0) (by go_simp)
    have z1 := ho1.cell (p := ⟨w.heap.size, 1, none⟩) (v := .int .i64 k1) (by go_simp)
    clear ho1 CN2
    go_wp2_with fail
    refine (CH2.out _).mono ?_
    rintro e w2 ⟨ho2, rfl⟩
    have O2 := hide (O1.out.trans ho2)
    clear ho2 CH2 z0 z1
    go_wp2_with fail
    go_loopw [9] (fun i wr => i = .int .i64 0 ∧ Hid (Old w wr)) (fun i _ => 0)
    case atStart => exact ⟨rfl, O2⟩
    case round =>
      obtain ⟨rfl, HO⟩ := hrel
      have CW := hide (works_run wr (HP.out.old HO.out))
      by_cases h0 : 0 < ls.length
      all_goals
        go_wp2_with fail
        refine CW.out.mono ?_
        rintro e w2 ⟨rfl, o2⟩
        have O3 := hide (HO.out.trans o2)
        clear o2
        go_wp2_with fail
        go_ret
        exact ⟨rfl, O3.out⟩
end Go.Proofs.YtmfbblcipakaiaaGreatDoor
