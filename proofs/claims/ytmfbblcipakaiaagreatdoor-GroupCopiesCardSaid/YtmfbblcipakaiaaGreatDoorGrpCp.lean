/- GroupCopies. -/
import Derived.Test.YtmfbblcipakaiaaGreatDoorGrpJ
namespace Go.Proofs.YtmfbblcipakaiaaGreatDoor
open Go.RowKit

/-- an Apply, and a block that stays out of the groups' memory -/
theorem away_apply {w0 w : World} {g bm K S m : Nat} {f : Gf} {B : Nat → Prop} (v : Value) (l : List Ent) (n : Int) (x : Nat) (hs : LSt w0 w g bm K S m f) (hB : GIs w g bm K S m f B) (hx : ¬ B x) (hxl : x < w.heap.size) (hl : EntsIs w v l) (hm : m ≤ 10000) (hn : l.length ≤ 1000) (hf : ∀ e ∈ l, EntFine e) (he : appErr K S f l = n) :
    Calls Tryz.prog 12 #[.pointer (some ⟨g, 0, none⟩), v] w fun e w' => ApPost w0 w g bm K S m f l n e w' ∧ ∃ B', GIs w' g bm K S (m + l.length) (appF K S f l) B' ∧ ¬ B' x := by
  have hk := hs.k3
  have h3 := hs.s3
  refine (apply_run g bm K S m f B v l w hB (by omega) (by omega) (by omega) hl (by omega) hf hs.pow').mono ?_
  rintro e w' ⟨h1, out, z, rfl, h8, -, hi, hd, hz, hG, hc⟩
  obtain ⟨A, c, us, rfl, h4, h5, -⟩ := id hi.is.open_
  obtain ⟨M, hM⟩ := hB.map
  have hb := hs.b0
  rw [he]
  refine ⟨⟨A, c, z, rfl, h4, h5, hi.is, hd, hz, ⟨hs.pow, hs.g0, hs.b0, Below.trans hs.old (Chg.below (lo := w0.heap.size) hc hs.old.size (fun n hn e => by omega)), hk, h3, _, hG⟩, hc, _, M, hM.map⟩, _, hG, ?_⟩
  rintro (h | ⟨h, -⟩)
  · exact hx h
  · omega
theorem lst_copy {w0 w : World} {g bm K S m : Nat} {f : Gf} (hs : LSt w0 w g bm K S m f) :
    Calls Tryz.prog 25 #[.pointer (some ⟨g, 0, none⟩)] w fun e w' =>
      ∃ c bc B, e = .returned (.pointer (some ⟨c, 0, none⟩)) ∧ bm ≠ bc ∧ bc < w'.heap.size ∧ bm < w'.heap.size ∧ LSt w0 w' g bm K S m f ∧ LSt w0 w' c bc K S m f ∧ GIs w' g bm K S m f B ∧ GIs w' c bc K S m f B ∧ ¬ B bm ∧ ¬ B bc ∧ Old w w' := by
  obtain ⟨B, hB⟩ := hs.is
  refine (copy_run g bm K S m f B w hB).mono ?_
  rintro e w' ⟨c, bc, rfl, h1, h2, hG, ho⟩
  have hlt := hB.lt
  have hz := hs.old.size
  have h5 := ho.size
  exact ⟨c, bc, B, rfl, by omega, hG.lt, by omega, hs.step ho, ⟨hs.pow, by omega, by omega, hs.old.trans ho, hs.k3, hs.s3, B, hG⟩, hB.old ho, hG, hB.nob, hG.nob, ho⟩

set_option maxRecDepth 100000 in
set_option maxHeartbeats 4000000 in
theorem copies_law (k0 k1 : Int) (v1 v2 : Value) (l1 l2 : List Ent) (w : World) (hl1 : EntsIs w v1 l1) (hf1 : EFits l1) (hl2 : EntsIs w v2 l2) (hf2 : EFits l2) (hp : PowTab w) :
    Calls Tryz.prog 6 #[.agg #[.int .i64 k0, .int .i64 k1], v1, v2] w fun e w' => e = .returned (.bool true) ∧ Old w w' := by
  have CM := hide (fun w' => made_run k0 k1 w')
  have hK := brg_lt k0 (n := 4) (by omega)
  have hS := brg_lt k1 (n := 4) (by omega)
  obtain ⟨K, hKe⟩ : ∃ K, K = brg k0 4 := ⟨_, rfl⟩
  obtain ⟨S, hSe⟩ : ∃ S, S = brg k1 4 := ⟨_, rfl⟩
  rw [← hKe, ← hSe] at CM
  rw [← hKe] at hK
  rw [← hSe] at hS
  clear hKe hSe
  obtain ⟨q1, hq1⟩ : ∃ q, q = cutEs l1 := ⟨_, rfl⟩
  obtain ⟨q2, hq2⟩ : ∃ q, q = cutEs l2 := ⟨_, rfl⟩
  have n1 : q1.length ≤ 12 := by rw [hq1]; exact cutEs_len _
  have n2 : q2.length ≤ 12 := by rw [hq2]; exact cutEs_len _
  have C1 := hide (fun w' (o : Old w w') => lst_cut v1 l1 (hl1.old o))
  have C2 := hide (fun w' (o : Old w w') => lst_cut v2 l2 (hl2.old o))
  have F1 := hide (cutEs_fine hf1)
  have F2 := hide (cutEs_fine hf2)
  rw [← hq1] at C1 F1
  rw [← hq2] at C2 F2
  have HP := hide hp
  clear hl1 hl2 hf1 hf2 hp hq1 hq2
  go_enter Tryz.func6, Tryz.ntmps6
  go_wp2_with fail
  refine (CM.out _).mono ?_
  rintro e w1 ⟨g, bm, rfl, hg, hbm, hG, ho⟩
  have S0 : Hid (LSt w w1 g bm K S 0 gZero) := hide (LSt.made HP.out ((Old.refl w).alloc _) hK hS hg hbm hG ho)
  clear hg hbm hG ho CM
  go_wp2_with fail
  refine (C1.out _ S0.out.old).mono ?_
  rintro e w2 ⟨A2, c2, rfl, -, -, i2, o2⟩
  have I2 := hide i2
  have S2 := hide (S0.out.step o2)
  clear i2 o2 S0 C1
  go_wp2_with fail
  refine (lst_apply _ q1 (appErr K S gZero q1) S2.out I2.out (by omega) (by omega) F1.out rfl).mono ?_
  rintro e w3 ⟨A3, c3, z3, rfl, -, -, -, -, -, s3, -⟩
  obtain ⟨f, hf⟩ : ∃ f, f = appF K S gZero q1 := ⟨_, rfl⟩
  rw [← hf] at s3
  have S3 := hide (s3.mono (n := 12) (by omega))
  clear s3 S2 I2 hf F1
  go_wp2_with fail
  refine (lst_rows S3.out (by omega)).mono ?_
  rintro e w4 ⟨A4, c4, zw, rfl, -, -, i4, r4, -, o4⟩
  have IW4 := hide i4
  have RW := hide r4
  have S4 := hide (S3.out.step o4)
  clear i4 r4 o4 S3
  go_wp2_with fail
  refine (lst_copy S4.out).mono ?_
  rintro e w5 ⟨c, bc, B, rfl, hne, hbcl, hbml, sg, sc, gg, gc, nb, nc, o5⟩
  have IW5 := hide (IW4.out.old o5)
  have SG5 := hide sg
  have SC5 := hide sc
  have GG5 := hide gg
  have GC5 := hide gc
  clear sg sc gg gc o5 IW4 S4
  go_wp2_with fail
  refine (C2.out _ SG5.out.old).mono ?_
  rintro e w6 ⟨A6, c6, rfl, -, -, i6, o6⟩
  have I6 := hide i6
  have hbm6 := Nat.lt_of_lt_of_le hbml o6.size
  have hbc6 := Nat.lt_of_lt_of_le hbcl o6.size
  have SG6 := hide (SG5.out.step o6)
  have SC6 := hide (SC5.out.step o6)
  have GG6 := hide (GG5.out.old o6)
  have GC6 := hide (GC5.out.old o6)
  have IW6 := hide (IW5.out.old o6)
  obtain ⟨n, hn⟩ : ∃ n, appErr K S f q2 = n := ⟨_, rfl⟩
  have HN := hide hn
  clear i6 o6 SG5 SC5 GG5 GC5 IW5 hbml hbcl hn
  go_wp2_with fail
  refine (away_apply _ q2 n bm SC6.out GC6.out nb hbm6 I6.out (by omega) (by omega) F2.out HN.out).mono ?_
  rintro e w7 ⟨⟨A7, c7, z7, rfl, -, -, i7, d7, -, s7, t7⟩, B', gc7, nb7⟩
  have SG7 := hide (t7.other SG6.out SC6.out.b0 hne ⟨B, GG6.out, nc⟩)
  have IW7 := hide (t7.items IW6.out)
  have I7 := hide i7
  have D7 := hide d7
  have SC7 := hide s7
  have GC7 := hide gc7
  clear i7 d7 s7 t7 gc7 SG6 SC6 GG6 GC6 IW6 I6
  go_wp2_with fail
  refine (lst_rows SG7.out (by omega)).mono ?_
  rintro e w8 ⟨A8, c8, z8, rfl, -, -, i8, r8, -, o8⟩
  have hz8 := r8.unique RW.out
  have SG8 := hide (SG7.out.step o8)
  have SC8 := hide (SC7.out.step o8)
  have GC8 := hide (GC7.out.old o8)
  have I8 := hide (I7.out.old o8)
  have IW8 := hide (IW7.out.old o8)
  have CS := hide (same_true _ _ z8 zw w8 i8 IW8.out hz8)
  clear i8 r8 o8 hz8 SG7 SC7 GC7 I7 IW7 IW8
  go_wp2_with fail
  refine CS.out.mono ?_
  rintro e w9 ⟨rfl, o9⟩
  have SG9 := hide (SG8.out.step o9)
  have SC9 := hide (SC8.out.step o9)
  have GC9 := hide (GC8.out.old o9)
  have I9 := hide (I8.out.old o9)
  clear o9 SG8 SC8 GC8 I8 CS
  go_wp2_with fail
  refine (C2.out _ SG9.out.old).mono ?_
  rintro e w10 ⟨A10, c10, rfl, -, -, i10, o10⟩
  have J10 := hide i10
  have SG10 := hide (SG9.out.step o10)
  have SC10 := hide (SC9.out.step o10)
  have GC10 := hide (GC9.out.old o10)
  have I10 := hide (I9.out.old o10)
  clear i10 o10 SG9 SC9 GC9 I9
  go_wp2_with fail
  refine (lst_apply _ q2 n SG10.out J10.out (by omega) (by omega) F2.out HN.out).mono ?_
  rintro e w11 ⟨A11, c11, z11, rfl, -, -, i11, d11, -, s11, t11⟩
  have SC11 := hide (t11.other SC10.out SG10.out.b0 (Ne.symm hne) ⟨B', GC10.out, nb7⟩)
  have SG11 := hide s11
  have I11 := hide (t11.items I10.out)
  have CS := hide (same_true _ _ z7 z11 w11 I11.out i11 (D7.out.unique d11))
  clear i11 d11 s11 t11 SC10 SG10 GC10 I10 J10 I11 D7
  go_wp2_with fail
  refine CS.out.mono ?_
  rintro e w12 ⟨rfl, o12⟩
  have SG12 := hide (SG11.out.step o12)
  have SC12 := hide (SC11.out.step o12)
  clear o12 SG11 SC11 CS
  go_wp2_with fail
  refine (lst_rows SG12.out (by omega)).mono ?_
  rintro e w13 ⟨A13, c13, z13, rfl, -, -, i13, r13, -, o13⟩
  have I13 := hide i13
  have R13 := hide r13
  have SC13 := hide (SC12.out.step o13)
  clear i13 r13 o13 SG12 SC12
  go_wp2_with fail
  refine (lst_rows SC13.out (by omega)).mono ?_
  rintro e w14 ⟨A14, c14, z14, rfl, -, -, i14, r14, -, o14⟩
  have CS := hide (same_true _ _ z13 z14 w14 (I13.out.old o14) i14 (R13.out.unique r14))
  have O14 := hide (SC13.out.old.trans o14)
  clear i14 r14 o14 I13 R13 SC13
  go_wp2_with fail
  refine CS.out.mono ?_
  rintro e w15 ⟨rfl, o15⟩
  have O12 := hide (O14.out.trans o15)
  clear o15 O14 CS
  go_wp2_with fail
  go_loopw [14, 15] (fun p i wz => Hid (Old w wz) ∧ ((i = .int .i64 0 ∧ p = .pointer none) ∨ (∃ q : Nat, i = .int .i64 1 ∧ p = .pointer (some ⟨q, 0, none⟩) ∧ Hid (wz.cell? ⟨q, 0, none⟩ = some (.bool false))) ∨ i = .int .i64 2)) (fun _ i _ => 2 - (intOf i).toNat)
  case atStart => exact ⟨O12, .inl ⟨rfl, rfl⟩⟩
  case round =>
    obtain ⟨HO, (⟨rfl, rfl⟩ | ⟨q, rfl, rfl, HC⟩ | rfl)⟩ := hrel
    · have O1 := HO
      clear O12
      go_wp2_with fail
      refine (C2.out _ O1.out).mono ?_
      rintro e x1 ⟨A1, c1, rfl, -, -, -, y1⟩
      have O2 := hide (O1.out.trans y1)
      clear y1 O1 HO
      go_wp2_with fail
      refine (apply_none none _ x1 (fun w' _ => none_nil w')).mono ?_
      rintro e x2 ⟨rfl, y2⟩
      have O3 := hide (O2.out.trans y2)
      clear y2 O2
      go_wp2_with fail
      refine (rows_none none x2 (none_nil _)).mono ?_
      rintro e x3 ⟨rfl, rfl⟩
      go_wp2_with fail
      refine (copy_none none x2 (none_nil _)).mono ?_
      rintro e x4 ⟨rfl, rfl⟩
      go_wp2_with fail
      go_roundw
      case rel => exact ⟨hide (O3.out.alloc _), .inr (.inl ⟨_, by go_num, rfl, hide ((cell_of_heap (heap_alloc_at _)).trans rfl)⟩)⟩
      case measure => simp [intOf]
    · have O1 := HO
      clear O12
      go_wp2_with fail
      refine (C2.out _ O1.out).mono ?_
      rintro e x1 ⟨A1, c1, rfl, -, -, -, y1⟩
      have O2 := hide (O1.out.trans y1)
      have HC1 := hide (y1.cell HC.out)
      clear y1 O1 HO
      go_wp2_with fail
      refine (apply_none (some ⟨q, 0, none⟩) _ x1 (fun w' o => none_fresh q w' (o.cell HC1.out))).mono ?_
      rintro e x2 ⟨rfl, y2⟩
      have O3 := hide (O2.out.trans y2)
      have HC2 := hide (y2.cell HC1.out)
      clear y2 O2
      go_wp2_with fail
      refine (rows_none (some ⟨q, 0, none⟩) x2 (none_fresh q _ HC2.out)).mono ?_
      rintro e x3 ⟨rfl, rfl⟩
      go_wp2_with fail
      refine (copy_none (some ⟨q, 0, none⟩) x2 (none_fresh q _ HC2.out)).mono ?_
      rintro e x4 ⟨rfl, rfl⟩
      go_wp2_with fail
      go_roundw
      case rel => exact ⟨hide (O3.out.alloc _), .inr (.inr (by go_num))⟩
      case measure => simp [intOf]
    · clear O12
      go_wp2_with fail
      refine (works_run _ (HP.out.old HO.out)).mono ?_
      rintro e x1 ⟨rfl, y1⟩
      have O2 := hide (HO.out.trans y1)
      clear y1
      go_wp2_with fail
      go_ret
      exact ⟨rfl, O2.out⟩
end Go.Proofs.YtmfbblcipakaiaaGreatDoor
