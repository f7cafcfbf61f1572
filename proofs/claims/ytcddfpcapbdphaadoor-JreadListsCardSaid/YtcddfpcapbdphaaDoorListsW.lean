/- JreadLists' walk. -/
import Derived.Test.YtcddfpcapbdphaaDoorWorks7
import Derived.Test.YtcddfpcapbdphaaDoorListsM
import Derived.Test.YtcddfpcapbdphaaDoorGrow
import Derived.Deep.RegionHeld3
namespace Go.Proofs.YtcddfpcapbdphaaDoor
open Go.RowKit

/-! ### the law's state -/
def abc6 : List ByteArray := [⟨#[97]⟩, ⟨#[98]⟩, ⟨#[99]⟩, ⟨#[100]⟩, ⟨#[101]⟩, ⟨#[102]⟩]
def abcN (i : Nat) : UInt8 := UInt8.ofNat (97 + i)
theorem abc_len : abc6.length = 6 := rfl
theorem six_of {i : Nat} (h : i < 6) : i = 0 ∨ i = 1 ∨ i = 2 ∨ i = 3 ∨ i = 4 ∨ i = 5 := by omega
theorem abc_cut {i : Nat} (h : i < 6) : (⟨#[97, 98, 99, 100, 101, 102]⟩ : ByteArray).extract i (i + 1) = ⟨#[abcN i]⟩ := by
  rcases six_of h with rfl | rfl | rfl | rfl | rfl | rfl <;> rfl
theorem abc_next {i : Nat} (h : i < 6) : abc6.take (i + 1) = abc6.take i ++ [⟨#[abcN i]⟩] := by
  rcases six_of h with rfl | rfl | rfl | rfl | rfl | rfl <;> rfl
theorem abc_key {i : Nat} (h : i < 6) : isKeyA (abcN i) := by
  unfold isKeyA
  rcases six_of h with rfl | rfl | rfl | rfl | rfl | rfl <;> decide
def abcs (k : Nat) : List UInt8 := (List.range k).map abcN
theorem abcs_next (k : Nat) : abcs (k + 1) = abcs k ++ [abcN k] := by simp [abcs, List.range_succ]
theorem abcs_keys {k : Nat} (h : k ≤ 6) : (abcs k).map (fun c => bT [c]) = abc6.take k := by
  have h7 : k = 0 ∨ k = 1 ∨ k = 2 ∨ k = 3 ∨ k = 4 ∨ k = 5 ∨ k = 6 := by omega
  rcases h7 with rfl | rfl | rfl | rfl | rfl | rfl | rfl <;> rfl
theorem abcs_nodup {k : Nat} (h : k ≤ 6) : ((abcs k).map fun c => [c]).Nodup := by
  have h7 : k = 0 ∨ k = 1 ∨ k = 2 ∨ k = 3 ∨ k = 4 ∨ k = 5 ∨ k = 6 := by omega
  rcases h7 with rfl | rfl | rfl | rfl | rfl | rfl | rfl <;> decide
/-- what was read so far: all of it, if b -/
structure ListsAt (k : Nat) (b : Bool) (pl : List (List Nd)) (S O : ByteArray) : Prop where
  len : pl.length = k
  s : S.size ≤ 1 + 101 * k
  o : O.size ≤ 1 + 105 * k
  tx : ∀ p ∈ pl, TextsOk p
  all : b = true → ∃ ps : List Mem, (∀ p ∈ ps, p.Few) ∧ ps.map Mem.k = (abcs k).map (fun c => [c]) ∧ pl = rowsM ps ∧ S.data.toList = accL 91 (ps.map Mem.l) ∧ O.data.toList = accL 123 (ps.map Mem.piece)
theorem ListsAt.nil_ : ListsAt 0 true [] ⟨#[91]⟩ ⟨#[123]⟩ where
  len := rfl
  s := by decide
  o := by decide
  tx := by simp
  all _ := ⟨[], by simp, rfl, rfl, rfl, rfl⟩
/-- what a text is read as, by the law -/
def LRes (s : ByteArray) (t : List Nd) (e : Int) : Prop := (e = 0 ∧ ∃ j, parseV s.data.toList = .ok j ∧ t = j.flat) ∨ (e ≠ 0 ∧ t = [])
theorem LRes.texts {s : ByteArray} {t : List Nd} {e : Int} (h : LRes s t e) : TextsOk t := by
  rcases h with ⟨_, j, h1, rfl⟩ | ⟨_, rfl⟩
  · exact may_texts h1
  · intro x hx; simp at hx
theorem piece_list (k : UInt8) (s : ByteArray) (O : ByteArray) : (((O ++ ⟨#[34]⟩) ++ ⟨#[k]⟩) ++ ⟨#[34, 58]⟩ ++ s).data.toList = O.data.toList ++ 34 :: k :: 34 :: 58 :: s.data.toList := by
  simp
theorem ListsAt.next {k : Nat} {b : Bool} {pl : List (List Nd)} {S O s S' O' : ByteArray} {t : List Nd} {e : Int} (h : ListsAt k b pl S O) (hk : k < 6) (hs : s.size ≤ 100) (hr : LRes s t e)
    (hS : S' = if k = 0 then S else S ++ ⟨#[44]⟩) (hO : O' = if k = 0 then O else O ++ ⟨#[44]⟩) :
    ListsAt (k + 1) (b && (e == 0)) (pl ++ [t]) (S' ++ s) (O' ++ ⟨#[34]⟩ ++ ⟨#[abcN k]⟩ ++ ⟨#[34, 58]⟩ ++ s) := by
  have h1 : (⟨#[44]⟩ : ByteArray).size = 1 := rfl
  have h2 : (⟨#[34]⟩ : ByteArray).size = 1 := rfl
  have h3 : (⟨#[abcN k]⟩ : ByteArray).size = 1 := rfl
  have h4 : (⟨#[34, 58]⟩ : ByteArray).size = 2 := rfl
  have hS1 : S'.size ≤ S.size + 1 := by
    rw [hS]; split
    · omega
    · rw [ByteArray.size_append]; omega
  have hO1 : O'.size ≤ O.size + 1 := by
    rw [hO]; split
    · omega
    · rw [ByteArray.size_append]; omega
  have hs0 := h.s
  have ho0 := h.o
  refine ⟨by simp [h.len], by rw [ByteArray.size_append]; omega, by simp only [ByteArray.size_append]; omega, ?_, ?_⟩
  · intro p hp
    rcases List.mem_append.1 hp with hp | hp
    · exact h.tx p hp
    · rw [List.mem_singleton.1 hp]; exact hr.texts
  intro hb
  rw [Bool.and_eq_true, beq_iff_eq] at hb
  obtain ⟨rfl, rfl⟩ := hb
  obtain ⟨j, hj, rfl⟩ : ∃ j, parseV s.data.toList = .ok j ∧ t = j.flat := by
    rcases hr with ⟨_, h⟩ | ⟨h, _⟩
    · exact h
    · exact absurd rfl h
  obtain ⟨ps, p1, p2, p3, p4, p5⟩ := h.all rfl
  have hps : (ps = []) = (k = 0) := by
    have := congrArg List.length p2
    simp only [abcs, List.length_map, List.length_range] at this
    apply propext
    constructor
    · rintro rfl; simpa using this.symm
    · intro h0; rw [h0] at this; exact List.length_eq_zero_iff.1 this
  refine ⟨ps ++ [memA (abcN k) s.data.toList j], ?_, ?_, ?_, ?_, ?_⟩
  · intro p hp
    rcases List.mem_append.1 hp with hp | hp
    · exact p1 p hp
    · rw [List.mem_singleton.1 hp]
      exact memA_few (abc_key hk) hj (by rw [list_size]; exact hs)
  · rw [List.map_append, p2, abcs_next, List.map_append]; rfl
  · rw [p3]; simp [rowsM, memA]
  · rw [List.map_append, cat_list, show [memA (abcN k) s.data.toList j].map Mem.l = [s.data.toList] from rfl, accL_snoc, hS, ← p4]
    congr 1
    simp only [List.map_eq_nil_iff, hps]
    split
    · rfl
    · rw [cat_list]
  · rw [List.map_append, piece_list, show [memA (abcN k) s.data.toList j].map Mem.piece = [34 :: abcN k :: 34 :: 58 :: s.data.toList] from rfl, accL_snoc, hO, ← p5]
    congr 1
    simp only [List.map_eq_nil_iff, hps]
    split
    · rfl
    · rw [cat_list]
/-- all was read: what the law asks -/
theorem ListsAt.says {k : Nat} {pl : List (List Nd)} {S O : ByteArray} (h : ListsAt k true pl S O) (hk : k ≤ 6) : ∃ ja jb : J, ListT pl ja.flat 0 ∧ ObjT (abc6.take k) pl jb.flat 0 ∧ parseV (S ++ ⟨#[93]⟩ : ByteArray).data.toList = .ok ja ∧ parseV (O ++ ⟨#[125]⟩ : ByteArray).data.toList = .ok jb ∧ ja.flat.length ≤ 4000 ∧ jb.flat.length ≤ 4000 := by
  obtain ⟨ps, p1, p2, p3, p4, p5⟩ := h.all rfl
  have hl : ps.length = k := by
    have := congrArg List.length p2
    simpa [abcs] using this
  obtain ⟨ja, jb, a1, a2, a3, a4, a5, a6⟩ := lists_say (ps := ps) (by omega) (by rw [p2]; exact abcs_nodup hk) p1
  refine ⟨ja, jb, by rw [p3]; exact a1, ?_, by rw [cat_list, p4]; exact a3, by rw [cat_list, p5]; exact a4, a5, a6⟩
  have hks : keysM ps = abc6.take k := by
    have e1 : keysM ps = (ps.map Mem.k).map bT := by simp [keysM, Mem.key, Function.comp_def]
    rw [← abcs_keys hk, e1, p2, List.map_map]
    rfl
  rw [p3, ← hks]
  exact a2
theorem texts_last {base : Nat} {w : World} {v : Value} {l : List ByteArray} {s : ByteArray} {k : Nat} (h : TextsOwn base w v (l ++ [s])) (hl : l.length = k) : ∃ b off cap, v = .slice (some ⟨b, off, none⟩) (k + 1) cap ∧ k + 1 ≤ cap ∧ cap ≤ maxLen ∧ w.cell? ⟨b, off + k, none⟩ = some (.string s) := by
  obtain ⟨A, cap, rfl, h1, h2, h3⟩ := (TextsOwn.is h).texts
  have hlen : (l ++ [s]).length = k + 1 := by simp [hl]
  rcases h3 with h3 | ⟨b, off, rfl, hc⟩
  · omega
  · refine ⟨b, off, cap, by rw [hlen], by omega, h2, ?_⟩
    have := hc k (by omega)
    rw [List.getElem_append_right (by omega)] at this
    simp only [hl, Nat.sub_self, List.getElem_cons_zero] at this
    exact this
theorem text_form {base m : Nat} {w : World} {v : Value} {l : List ByteArray} (h : TextsOwn base w v l) (hm : l.length = m) : ∃ A cap, v = .slice A m cap ∧ m ≤ cap ∧ cap ≤ maxLen := by
  obtain ⟨A, cap, rfl, h1, h2, _⟩ := SlT.of_own h
  exact ⟨A, cap, by rw [hm], by omega, h2⟩
theorem part_form {base : Nat} {w : World} {v : Value} {ps : List (List Nd)} {m : Nat} (h : PartsOwn base w v ps) (hm : ps.length = m) : ∃ A cap, v = .slice A m cap ∧ m ≤ cap ∧ cap ≤ maxLen := by
  obtain ⟨vs, _, h2, _⟩ := h
  obtain ⟨A, cap, rfl, h1, h2, _⟩ := SlT.of_own h2
  exact ⟨A, cap, by rw [hm], by omega, h2⟩
/-- what Parse answers, as the law takes it -/
theorem parse_lres (s : ByteArray) (w : World) (hs : s.size ≤ 1073741824) (hE : Errs w) (hT : Tabs w) :
    Calls Tryd.prog 8 #[.string s] w fun e w' => (∃ (A : Option Addr) (c M : Nat) (t : List Nd) (p er : Int), e = .returned (.tuple #[.slice A M c, .int .i64 p, .int .i64 er]) ∧ t.length = M ∧ M ≤ c ∧ c ≤ maxLen ∧ LRes s t er ∧ NodesT w.heap.size w' (.slice A M c) t) ∧ Old w w' := by
  refine (jparse_run s w hs hE hT).mono ?_
  rintro e w' ⟨h1, h2⟩
  refine ⟨?_, h2⟩
  unfold JParsed at h1
  cases hp : parseV s.data.toList with
  | error x =>
    obtain ⟨p, c⟩ := x
    rw [hp] at h1
    have hc := (parseV_no hp).1
    exact ⟨none, 0, 0, [], (p : Int), c, h1, rfl, Nat.le_refl _, by unfold maxLen; omega, .inr ⟨by omega, rfl⟩, SlT.of_own (own_nil _ _ 5 _)⟩
  | ok j =>
    rw [hp] at h1
    obtain ⟨v, h3, h4⟩ := h1
    obtain ⟨A, cap, rfl, a1, a2, a3⟩ := SlT.of_own h4
    exact ⟨A, cap, j.flat.length, j.flat, 0, 0, h3, rfl, a1, a2, .inl ⟨rfl, j, hp, rfl⟩, ⟨A, cap, rfl, a1, a2, a3⟩⟩

set_option maxRecDepth 100000 in
set_option maxHeartbeats 4000000 in
theorem jlists_walk (v : Value) (l : List ByteArray) (w : World) (h : TextsIs w v l) (hT : Tabs w) (hE : Errs w) :
    Calls Tryd.prog 6 #[v] w fun e w' => e = .returned (.bool true) ∧ Old w w' := by
  have HT := hide hT
  have HE := hide hE
  obtain ⟨A, c, rfl, hlc, hcm, hcell⟩ := h.texts
  have HC := hide hcell
  unfold maxLen at hcm
  obtain ⟨L, hL⟩ : ∃ L, Hid (l.length = L) := ⟨_, hide rfl⟩
  rw [hL.out] at hlc ⊢
  clear h hT hE hcell
  go_enter Tryd.func6, Tryd.ntmps6
  go_upto_block 0 with fail
  go_cut [3, 4, 5, 6, 7] (fun sv ov pv kv bv wc => ∃ (S O : ByteArray) (b : Bool) (A3 A4 : Option Addr) (c3 c4 m : Nat) (pl : List (List Nd)), sv = .string S ∧ ov = .string O ∧ bv = .bool b ∧ pv = .slice A3 m c3 ∧ kv = .slice A4 m c4 ∧ m ≤ c3 ∧ c3 ≤ 2 ^ 63 - 1 ∧ m ≤ c4 ∧ c4 ≤ 2 ^ 63 - 1 ∧ m ≤ 6 ∧ Hid (ListsAt m b pl S O) ∧ Hid (PartsIs wc (.slice A3 m c3) pl) ∧ Hid (TextsIs wc (.slice A4 m c4) (abc6.take m)) ∧ Hid (Old w wc))
  case first =>
    go_wp2_with fail
    go_loopw [3, 4, 5, 6, 7, 8] (fun sv ov pv kv bv i wr => ∃ (k : Nat) (S O : ByteArray) (b : Bool) (pl : List (List Nd)), i = .int .i64 k ∧ sv = .string S ∧ ov = .string O ∧ bv = .bool b ∧ k ≤ L ∧ k ≤ 6 ∧ Hid (ListsAt k b pl S O) ∧ Hid (PartsOwn w.heap.size wr pv pl) ∧ Hid (TextsOwn w.heap.size wr kv (abc6.take k)) ∧ Hid (Old w wr)) (fun _ _ _ _ _ i _ => L - (intOf i).toNat)
    case atStart => exact ⟨0, _, _, true, [], rfl, rfl, rfl, rfl, by omega, by omega, hide ListsAt.nil_, hide (PartsOwn.nil_ _ _), hide (own_nil _ _ _ _), hide (Old.refl _)⟩
    case round =>
      obtain ⟨k, S, O, b, pl, rfl, rfl, rfl, rfl, hk, hk6, HL, HPO, HTO, HO⟩ := hrel
      have FIN := hide (show ∃ (S' O' : ByteArray) (b' : Bool) (A3 A4 : Option Addr) (c3 c4 m : Nat) (pl : List (List Nd)), (Value.string S) = .string S' ∧ (Value.string O) = .string O' ∧ (Value.bool b) = .bool b' ∧ u5 = .slice A3 m c3 ∧ u6 = .slice A4 m c4 ∧ m ≤ c3 ∧ c3 ≤ 2 ^ 63 - 1 ∧ m ≤ c4 ∧ c4 ≤ 2 ^ 63 - 1 ∧ m ≤ 6 ∧ Hid (ListsAt m b' pl S' O') ∧ Hid (PartsIs wr (.slice A3 m c3) pl) ∧ Hid (TextsIs wr (.slice A4 m c4) (abc6.take m)) ∧ Hid (Old w wr) from by
        obtain ⟨A3, c3, rfl, a1, a2⟩ := part_form HPO.out HL.out.len
        obtain ⟨A4, c4, rfl, b1, b2⟩ := text_form HTO.out (show (abc6.take k).length = k by simp [abc_len]; omega)
        exact ⟨S, O, b, A3, A4, c3, c4, k, pl, rfl, rfl, rfl, rfl, rfl, a1, a2, b1, b2, hk6, HL, hide HPO.out.is, hide (TextsOwn.is HTO.out), HO⟩)
      by_cases hlt : k < L
      · by_cases h6 : k < 6
        · have hkl : k < l.length := by rw [hL.out]; exact hlt
          obtain ⟨b0, f0, rfl, hcl⟩ := HC.out.resolve_left (by omega)
          obtain ⟨x, hx⟩ : ∃ x, Hid (l[k] = x) := ⟨_, hide rfl⟩
          have e0 := HO.out.cell (hcl k hkl)
          rw [hx.out] at e0
          have hz1 : (min (x.size : Int) 100).toNat ≤ 100 := by omega
          obtain ⟨s, hs⟩ : ∃ s, Hid (x.extract 0 (min (x.size : Int) 100).toNat = s) := ⟨_, hide rfl⟩
          have hss : s.size ≤ 100 := by rw [← hs.out, ByteArray.size_extract]; omega
          obtain ⟨wd, hwd⟩ : ∃ W, Hid (wr.drew = W) := ⟨_, hide rfl⟩
          have HO' := hide (show Old w wd by rw [← hwd.out]; exact Old.drew HO.out)
          have HPO' := hide (show PartsOwn w.heap.size wd u5 pl by rw [← hwd.out]; exact HPO.out.old (Old.drew (Old.refl _)))
          have HTO' := hide (show TextsOwn w.heap.size wd u6 (abc6.take k) by rw [← hwd.out]; exact own_old HTO.out (Old.drew (Old.refl _)))
          have CP := hide (parse_lres s wd (by omega) (HE.out.old HO'.out) (HT.out.old HO'.out))
          have hcut := abc_cut h6
          have hwk : IntKind.i64.wrap ((k : Int) + 1) = (k : Int) + 1 := IntWalk.i64_in _ (by omega)
          have hl1 : pl.length + 1 ≤ 4194304 := by rw [HL.out.len]; omega
          have hl2 : (abc6.take k).length + 1 ≤ 4194304 := by simp [abc_len]; omega
          have HSS := hide hss
          have hSz : S.size ≤ 1000 := by have := HL.out.s; omega
          have hOz : O.size ≤ 1000 := by have := HL.out.o; omega
          clear hcl hz1
          go_wp2_with fail
          go_region
          rw [hs.out, hwd.out]
          clear HO HPO HTO e0
          go_wp2_with fail
          refine CP.out.mono ?_
          rintro e w6 ⟨⟨A6, c6, M, t, p, er, rfl, hM, q6, r6, lr, n6⟩, o6⟩
          unfold maxLen at r6
          have HLR := hide lr
          have HM := hide hM
          have N6 := hide (SlT.mono (SlT.old n6 (Old.alloc (Old.refl _) (.cells #[.slice A6 M c6] 22))) HO'.out.size)
          have OA := hide (Old.trans o6 (Old.alloc (Old.refl _) (.cells #[.slice A6 M c6] 22)))
          have HPO6 := hide (HPO'.out.old OA.out)
          have OZA := hide (Old.trans HO'.out OA.out)
          obtain ⟨eb, heb⟩ : ∃ eb : Bool, Hid ((er == 0) = eb) := ⟨_, hide rfl⟩
          have heb' : (er == 0) = eb := heb.out
          clear n6 o6 CP lr hM
          go_upto_region 10 with fail
          go_cut [7] (fun bv wc => bv = .bool (b && eb) ∧ wc = w6)
          case first =>
            cases b
            · go_wp2_with fail
              go_meet
              exact ⟨rfl, rfl⟩
            · go_wp2_with fail
              go_meet
              exact ⟨rfl, rfl⟩
          case rest =>
          obtain ⟨rfl, rfl⟩ := hcut
          go_upto_region 12 with (at_builtin; refine wpList_plain rfl (fun K hK => ?_); refine step_push_part _ _ _ rfl w.heap.size _ pl rfl HPO6.out _ _ (.slice A6 M c6) t rfl (by go_simp) N6.out hl1 OZA.out.size ?_; intro v7 w7 own7 kept7; refine hK _ _ ?_; clear hK)
          have O7 := hide (kept7.old OZA.out (Nat.le_refl _))
          have P7 := hide own7
          have T7 := hide (Kept.own kept7 (own_old HTO'.out OA.out) (by decide))
          clear own7 kept7
          go_upto_region 13 with (at_builtin; refine wpList_plain rfl (fun K hK => ?_); refine step_push_text _ _ _ rfl w.heap.size _ (abc6.take k) rfl (own_old T7.out (Old.alloc (Old.refl _) _)) _ _ ⟨#[abcN k]⟩ rfl (by go_simp) hl2 (O7.out.alloc _).size ?_; intro v8 w8 own8 kept8; refine hK _ _ ?_; clear hK)
          have O8 := hide (kept8.old (O7.out.alloc _) (Nat.le_refl _))
          have P8 := hide (PartsOwn.kept (P7.out.old (Old.alloc (Old.refl _) _)) kept8 (by decide) (by decide))
          have T8 := hide own8
          obtain ⟨b8, f8, c8, rfl, q8, r8, x8⟩ := texts_last own8 (show (abc6.take k).length = k by simp [abc_len]; omega)
          unfold maxLen at r8
          have T9 := hide (show TextsOwn w.heap.size w8 (.slice (some ⟨b8, f8, none⟩) (k + 1) c8) (abc6.take (k + 1)) by rw [abc_next h6]; exact T8.out)
          clear own8 kept8
          by_cases hk0 : k = 0
          · have HLN := hide (HL.out.next (S' := S) (O' := O) h6 HSS.out HLR.out (by rw [if_pos hk0]) (by rw [if_pos hk0]))
            rw [heb'] at HLN
            subst hk0
            rw [Nat.add_zero] at x8
            have hz1 : (⟨#[abcN 0]⟩ : ByteArray).size = 1 := rfl
            go_wp2_with fail
            go_roundw
            case rel => exact ⟨0 + 1, _, _, _, pl ++ [t], by go_num, rfl, rfl, rfl, by omega, by omega, HLN, P8, T9, O8⟩
            case measure => simp [intOf]; omega
          · have HLN := hide (HL.out.next (S' := S ++ ⟨#[44]⟩) (O' := O ++ ⟨#[44]⟩) h6 HSS.out HLR.out (by rw [if_neg hk0]) (by rw [if_neg hk0]))
            rw [heb'] at HLN
            have hkn : (0 : Int) < (k : Int) := by omega
            have hz1 : (⟨#[abcN k]⟩ : ByteArray).size = 1 := rfl
            have hz2 : (⟨#[44]⟩ : ByteArray).size = 1 := rfl
            go_wp2_with fail
            go_roundw
            case rel => exact ⟨k + 1, _, _, _, pl ++ [t], by go_num, rfl, rfl, rfl, by omega, by omega, HLN, P8, T9, O8⟩
            case measure => simp [intOf]; omega
        · have hk6' : ¬ (k : Int) < 6 := by omega
          go_wp2_with fail
          go_meet
          exact FIN.out
      · go_wp2_with fail
        go_meet
        exact FIN.out
  case rest =>
    obtain ⟨S, O, b, A3, A4, c3, c4, m, pl, rfl, rfl, rfl, rfl, rfl, a1, a2, b1, b2, hm6, HL, HP, HKS, HO⟩ := hcut
    have HTR := hide (HT.out.old HO.out)
    have HER := hide (HE.out.old HO.out)
    cases b with
    | false =>
      go_wp2_with fail
      refine (works_run _ HER.out HTR.out).mono ?_
      rintro e w2 ⟨rfl, o2⟩
      have O2 := hide (Old.trans HO.out o2)
      clear o2
      go_wp2_with fail
      go_ret
      exact ⟨rfl, O2.out⟩
    | true =>
      obtain ⟨ja, jb, g1, g2, g3, g4, g5, g6⟩ := HL.out.says hm6
      have HX := hide HL.out.tx
      have hSs : S.size ≤ 1000 := by have := HL.out.s; omega
      have hOs : O.size ≤ 1000 := by have := HL.out.o; omega
      have HSZ := hide (show ∀ s ∈ abc6.take m, s.size ≤ maxLen from fun s hs => by
        have h1 := List.mem_of_mem_take hs
        have h2 : ∀ s ∈ abc6, s.size ≤ 1 := by decide
        have := h2 s h1
        unfold maxLen
        omega)
      obtain ⟨U, hU⟩ : ∃ U, Hid (ja.flat = U) := ⟨_, hide rfl⟩
      obtain ⟨V, hV⟩ : ∃ U, Hid (jb.flat = U) := ⟨_, hide rfl⟩
      rw [hU.out] at g1 g5
      rw [hV.out] at g2 g6
      have G1 := hide g1
      have G2 := hide g2
      have G3 := hide g3
      have G4 := hide g4
      clear g1 g2 g3 g4
      go_wp2_with fail
      refine (list_run _ pl U 0 _ HP.out HX.out HTR.out G1.out).mono ?_
      rintro e w2 ⟨v2, rfl, n2, o2⟩
      have O2 := hide o2
      have N2 := hide (SlT.sl n2)
      clear n2 o2
      go_wp2_with fail
      refine (obj_run _ _ (abc6.take m) pl V 0 _ (HKS.out.old O2.out) HSZ.out (HP.out.old O2.out) HX.out (HTR.out.old O2.out) G2.out).mono ?_
      rintro e w3 ⟨v3, rfl, n3, o3⟩
      have O3 := hide (Old.trans O2.out o3)
      have M2 := hide (N2.out.old o3)
      have N3 := hide (SlT.sl n3)
      clear n3 o3 N2
      go_wp2_with fail
      refine (reads_ok _ _ U ja _ (by simp [ByteArray.size_append]; have : (⟨#[93]⟩ : ByteArray).size = 1 := rfl; omega) (HER.out.old O3.out) (HTR.out.old O3.out) G3.out hU.out M2.out g5).mono ?_
      rintro e w4 ⟨rfl, o4⟩
      have O4 := hide (Old.trans O3.out o4)
      have N4 := hide (N3.out.old o4)
      clear o4 N3
      go_wp2_with fail
      refine (reads_ok _ _ V jb _ (by simp [ByteArray.size_append]; have : (⟨#[125]⟩ : ByteArray).size = 1 := rfl; omega) (HER.out.old O4.out) (HTR.out.old O4.out) G4.out hV.out N4.out g6).mono ?_
      rintro e w5 ⟨rfl, o5⟩
      have O5 := hide (Old.trans O4.out o5)
      clear o5
      go_wp2_with fail
      refine (works_run _ (HER.out.old O5.out) (HTR.out.old O5.out)).mono ?_
      rintro e w6 ⟨rfl, o6⟩
      have O6 := hide (Old.trans HO.out (Old.trans O5.out o6))
      clear o6
      go_wp2_with fail
      go_ret
      exact ⟨rfl, O6.out⟩
end Go.Proofs.YtcddfpcapbdphaaDoor
