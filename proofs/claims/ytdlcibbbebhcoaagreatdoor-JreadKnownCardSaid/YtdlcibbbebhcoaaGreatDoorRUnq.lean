/- The document's Unquote: what the literal says with which a text begins. -/
import Derived.Test.YtdlcibbbebhcoaaGreatDoorREsc
import Derived.Test.YtdlcibbbebhcoaaGreatDoorRBeg
import Derived.Test.YtdlcibbbebhcoaaGreatDoorUnquW
import Derived.Lib.AppendStr
import Derived.Laws.BytesArg
import Derived.Laws.IdiomStrings
/-! ### The document's Unquote: what the literal says with which a text begins. -/
namespace Go.Proofs.YtdlcibbbebhcoaaGreatDoor
open Go.RowKit

abbrev BytesR (base : Nat) (w : World) (v : Value) (l : List UInt8) : Prop := w.ownsRow base 5 1 v l.length (Lib.strCells (bT l))
theorem strC_bT (l : List UInt8) : Lib.strCells (bT l) = l.map fun b => .int .u8 (b.toNat : Int) := by simp [Lib.strCells, bT]
theorem strC_append (l m : List UInt8) : Lib.strCells (bT l) ++ Lib.strCells (bT m) = Lib.strCells (bT (l ++ m)) := by rw [strC_bT, strC_bT, strC_bT, List.map_append]
theorem convR {base : Nat} {w : World} {v : Value} {l : List UInt8} (h : BytesR base w v l) : (convert 23 9 v).run Tryz.prog w = .ok (.string (bT l)) w := by
  rcases h.2 with ⟨rfl, hz⟩ | ⟨g, cap, cur, rfl, hb, hg, h1, h2, h3, h4⟩
  · have : l = [] := List.length_eq_zero_iff.1 hz
    subst this
    exact run_convert_bytes_nil (w := w) _ 5 Tryz.underlying23 Tryz.underlying5 0 0 _ Tryz.underlying9
  · refine run_convert_bytes_back w _ _ 5 ⟨g, 0, none⟩ cap l Tryz.underlying23 Tryz.underlying5 Tryz.underlying9 fun j hj => ?_
    have hc : cur.toList[j]? = some (.int .u8 (l[j].toNat : Int)) := by
      have h5 : (cur.toList.take (l.length * 1))[j]? = (Lib.strCells (bT l))[j]? := by rw [h4]
      rw [List.getElem?_take_of_lt (by omega)] at h5
      rw [h5, strC_bT]
      rw [List.getElem?_map, List.getElem?_eq_getElem hj]
      rfl
    have := cell_of_heap (i := 0 + j) hg
    simp [Addr.add] at this ⊢
    rw [show (if j = 0 then ({ block := g, off := 0 } : Addr) else { block := g, off := j }) = { block := g, off := j } by split <;> simp_all, this]
    simpa using hc
theorem rpiece_out {l r t : List UInt8} (h : pieceV l = .ok (t, r)) : t.length ≤ 4 := by
  have := pcT_len l
  unfold pcT at this
  rw [h] at this
  exact this
/-- the rest of a literal, behind what it said so far -/
def restU (t l : List UInt8) : Except Int (List UInt8 × List UInt8) :=
  match unqB (l.length + 1) l with
  | .error e => .error e
  | .ok (u, r) => .ok (t ++ u, r)
theorem restU_nil (t : List UInt8) : restU t [] = .error 3 := rfl
theorem restU_end (t r : List UInt8) : restU t (34 :: r) = .ok (t, r) := by
  unfold restU
  simp only [List.length_cons, unqB, if_true]
  rw [List.append_nil]
theorem restU_bad {t r : List UInt8} {c : UInt8} {e : Int} (h : c ≠ 34) (hp : pieceV (c :: r) = .error e) : restU t (c :: r) = .error e := by
  unfold restU
  simp only [unqB, if_neg h, hp]
theorem restU_go {t r u r1 : List UInt8} {c : UInt8} (h : c ≠ 34) (hp : pieceV (c :: r) = .ok (u, r1)) : restU t (c :: r) = restU (t ++ u) r1 := by
  have hl := pieceV_less hp
  simp only [List.length_cons] at hl
  unfold restU
  simp only [List.length_cons, unqB, if_neg h, hp]
  rw [unqB_more (r.length + 1) (r1.length + 1) r1 hl (by omega)]
  cases unqB (r1.length + 1) r1 with
  | error e => rfl
  | ok x => simp only [List.append_assoc]
theorem piece_esc {r : List UInt8} : pieceV (92 :: r) = escV r := by simp [pieceV]
theorem piece_low {c : UInt8} {r : List UInt8} (h : c.toNat < 32) : pieceV (c :: r) = .error 41 := by
  have h1 : c ≠ 92 := by rintro rfl; exact absurd h (by decide)
  simp only [pieceV, if_neg h1, plainV, if_pos h]
theorem piece_plain {c : UInt8} {r : List UInt8} (h1 : c ≠ 92) (h2 : ¬ c.toNat < 32) : pieceV (c :: r) = if runeN (c :: r) ≠ 0 then .ok ((c :: r).take (runeN (c :: r)), (c :: r).drop (runeN (c :: r))) else if fullB (c :: r) = false then .error 3 else .error 40 := by
  simp only [pieceV, if_neg h1, plainV, if_neg h2]
theorem rune_next (l : List UInt8) (h : l ≠ []) : nextN (txt l) = runeN l := by
  rw [next_decode l h]
  rfl
/-- what Next answers, taken apart -/
theorem next_parts2 (s : ByteArray) (w : World) : Calls Tryz.prog 62 #[.string s] w fun e w' => (∃ r : Int, e = .returned (.tuple #[.int .i32 r, .int .i64 (nextN s : Int), .bool (decide (nextN s ≠ 0))])) ∧ Old w w' := by
  refine (next_run s w).mono ?_
  rintro e w' ⟨rfl, o⟩
  refine ⟨?_, o⟩
  unfold nextVal
  split
  · rename_i h0
    rw [h0]
    exact ⟨0, rfl⟩
  · rename_i h0
    exact ⟨_, by rw [decide_eq_true h0]⟩
theorem ext_take (s : ByteArray) (k n : Nat) : s.extract k (k + n) = bT ((s.data.toList.drop k).take n) := by
  have h : (s.extract k (k + n)).data = (bT ((s.data.toList.drop k).take n)).data := by
    apply Array.toList_inj.1
    rw [ByteArray.data_extract, Array.toList_extract]
    simp only [List.extract, bT]
    rw [Nat.add_sub_cancel_left]
  exact ByteArray.ext h
theorem unqE_err (n : Nat) (c : Int) : unqE n (.error c) = .tuple #[.string ⟨#[]⟩, .int .i64 0, .int .i64 c] := rfl
theorem unqE_ok (n : Nat) (t r : List UInt8) : unqE n (.ok (t, r)) = .tuple #[.string (bT t), .int .i64 ((n - r.length : Nat) : Int), .int .i64 0] := rfl
theorem suf_drop {s : ByteArray} {l : List UInt8} {k : Nat} (h : l <:+ s.data.toList.drop k) : s.data.toList.drop (s.size - l.length) = l := by
  have := List.suffix_iff_eq_drop.1 (h.trans (List.drop_suffix k _))
  rw [list_size] at this
  exact this.symm
section
variable {ops : Array Oper} {rest : List Oper} {o : Oper} {a : Act} {Q : Exit → Act → World → Prop}
/-- append of a text's bytes -/
theorem wpl_push_str (w : World) (hgd : o.guard = none) (sl x : Operand) (ho : o.op = .call { callee := .builtin .append, args := #[sl, x], argTypes := #[23, 9] })
    (base : Nat) (v : Value) (l : List UInt8) (hs : a.eval sl = v) (hown : BytesR base w v l) (X : ByteArray) (hx : a.eval x = .string X) (m : List UInt8) (hX : X = bT m) (hlen : l.length + m.length ≤ 140737488355328) (hbase : base ≤ w.heap.size)
    (h : ∀ v' w', BytesR base w' v' (l ++ m) → RowKit.Below base w w' → wpList Tryz.prog ops Q rest (a.put o.dst v') w') : wpList Tryz.prog ops Q (o :: rest) a w := by
  subst hX
  obtain ⟨i0, hi, hz0, hz1, hz2⟩ := info_parts infoB
  refine Lib.wpList_append_own_string w hgd sl x 23 9 ho base 5 i0 Tryz.underlying23 Tryz.underlying9 hi hz0 hz1 hz2 v l.length _ hs hown (bT m) hx (by rw [bT_size]; unfold maxLen; omega) (by rw [bT_size]; exact hlen) hbase ?_
  intro v' w' own' hg _
  refine h v' w' ?_ (Below.grown (Below.refl base w) hg hbase fun k hk => (hown.lt k hk).1)
  have hz : (bT m).size = m.length := bT_size m
  rw [hz] at own'
  unfold BytesR
  rw [List.length_append, ← strC_append]
  exact own'
end
set_option maxRecDepth 100000 in
set_option maxHeartbeats 4000000 in
theorem runq_run (s : ByteArray) (w : World) (hs : s.size ≤ 1073741824) : Calls Tryz.prog 53 #[.string s] w fun e w' => e = .returned (unqE s.size (unqV s.data.toList)) ∧ Old w w' := by
  obtain ⟨R, hR⟩ : ∃ R, Hid (unqV s.data.toList = R) := ⟨_, hide rfl⟩
  rw [hR.out]
  by_cases h0 : s.size = 0
  · have e0 : s.data.toList = [] := List.eq_nil_of_length_eq_zero (by rw [list_size]; exact h0)
    have FIN := hide (show R = .error 3 by
      rw [← hR.out, e0]
      rfl)
    clear e0
    obtain rfl : s = ByteArray.empty := by
      apply ByteArray.ext
      exact Array.eq_empty_of_size_eq_zero h0
    go_enter Tryz.func53, Tryz.ntmps53
    go_wp2_with fail
    go_ret3
    exact ⟨by rw [FIN.out]; rfl, Old.refl _⟩
  have hl0 : 0 < s.size := by omega
  have hse : ¬ s = ByteArray.empty := by rintro rfl; simp at hl0
  have hse2 : ¬ s = ⟨#[]⟩ := hse
  have hse3 : s.toList.isEmpty = false := by
    obtain ⟨a⟩ := s
    have hl : a.toList.length ≠ 0 := by
      have := list_size ⟨a⟩
      simp only at this
      omega
    rw [ByteArray.toList_mk]
    cases h : a.toList with
    | nil => rw [h] at hl; exact absurd rfl hl
    | cons _ _ => rfl
  obtain ⟨T, hT⟩ : ∃ T, Hid (s.data.toList.drop 1 = T) := ⟨_, hide rfl⟩
  have hd0 : s.data.toList = s[0] :: T := by rw [← hT.out]; exact drop_at hl0
  obtain ⟨c, hc⟩ : ∃ c, s[0]'hl0 = c := ⟨_, rfl⟩
  rw [hc] at hd0
  have hl0i : (0 : Int) < (s.size : Int) := by omega
  by_cases h34 : c = 34
  · have HR := hide (show R = restU [] (s.data.toList.drop 1) by
      rw [← hR.out, hT.out, hd0, h34]
      simp only [unqV, restU, ne_eq, not_true, if_false, List.nil_append]
      cases unqB (T.length + 1) T <;> rfl)
    have hq : ((c.toNat : Int) != 34) = false := by rw [h34]; rfl
    clear hd0 h34 hR
    go_enter Tryz.func53, Tryz.ntmps53
    go_wp2_with fail
    go_loopw [5, 6] (fun ov iv wr => ∃ (k : Nat) (t : List UInt8), iv = .int .i64 k ∧ 1 ≤ k ∧ k ≤ s.size ∧ t.length ≤ 4 * k ∧ Hid (BytesR w.heap.size wr ov t) ∧ Hid (Old w wr) ∧ Hid (R = restU t (s.data.toList.drop k))) (fun _ iv _ => s.size - (intOf iv).toNat)
    case atStart => exact ⟨1, [], rfl, by omega, by omega, by simp, hide (World.ownsRow_nil w _ _ 1), hide (Old.refl _), HR⟩
    case round =>
      clear HR
      obtain ⟨k, t, rfl, hk1, hk, ht, HB, HO, HR⟩ := hrel
      by_cases hlt : k < s.size
      · have hd := drop_at hlt
        obtain ⟨c, hc⟩ : ∃ c, s[k]'hlt = c := ⟨_, rfl⟩
        rw [hc] at hd
        obtain ⟨r, hr⟩ : ∃ r, Hid (s.data.toList.drop (k + 1) = r) := ⟨_, hide rfl⟩
        rw [hr.out] at hd
        have HD := hide hd
        have hlti : (k : Int) < (s.size : Int) := by omega
        have hlei : (k : Int) ≤ (s.size : Int) := by omega
        rw [hd] at HR
        clear hd
        by_cases c34 : c = 34
        · have FIN := hide (show R = .ok (t, r) by rw [HR.out, c34]; exact restU_end t r)
          have hcv := convR HB.out
          have hq1 : ((c.toNat : Int) == 34) = true := by rw [c34]; rfl
          have HL := hide (show s.size = r.length + (k + 1) by rw [← hr.out, List.length_drop, list_size]; omega)
          clear c34
          go_wp2_with fail
          go_ret3
          exact ⟨by rw [FIN.out, escE_ok (m := k + 1) (X := bT t) HL.out.symm rfl]; rfl, HO.out⟩
        have hq1 : ((c.toNat : Int) == 34) = false := by
          have : c.toNat ≠ 34 := fun e => c34 (UInt8.toNat_inj.1 e)
          simp; omega
        have BAD := hide (fun e (h : pieceV (c :: r) = .error e) => show R = .error e by rw [HR.out]; exact restU_bad c34 h)
        have GO := hide (fun u r1 (h : pieceV (c :: r) = .ok (u, r1)) => show R = restU (t ++ u) r1 ∧ u.length ≤ 4 ∧ r1.length < (c :: r).length from ⟨by rw [HR.out]; exact restU_go c34 h, rpiece_out h, pieceV_less h⟩)
        clear c34 HR
        by_cases c32 : c.toNat < 32
        · have FIN := hide (BAD.out 41 (piece_low c32))
          have hq2 : (c.toNat : Int) < 32 := by omega
          clear c32
          go_wp2_with fail
          go_ret3
          exact ⟨by rw [FIN.out]; rfl, HO.out⟩
        have hq2 : ¬ (c.toNat : Int) < 32 := by omega
        obtain ⟨u, hu⟩ : ∃ u, Hid (s.extract k s.size = u) := ⟨_, hide rfl⟩
        have hul : u.data.toList = c :: r := by rw [← hu.out]; exact (ext_list s k).trans HD.out
        have hus : u.size = r.length + 1 := by rw [← list_size u, hul]; rfl
        have hrl : r.length + 1 = s.size - k := by rw [← hus, ← hu.out, ByteArray.size_extract]; omega
        have hui : (0 : Int) < (u.size : Int) := by omega
        by_cases c92 : c = 92
        · have hq3 : ((c.toNat : Int) == 92) = true := by rw [c92]; rfl
          have CE := hide (rescape_run u wr (by omega) (by omega))
          rw [hul] at CE
          simp only [List.drop_succ_cons, List.drop_zero] at CE
          rw [c92] at BAD GO
          cases he : escV r with
          | error e =>
            have FIN := hide (BAD.out e (piece_esc.trans he))
            have hee : (e != 0) = true := by have := escV_err he; simp; omega
            rw [he, unqE_err] at CE
            clear GO BAD he c92
            go_wp2_with fail
            rw [hu.out]
            refine CE.out.mono ?_
            rintro e w1 ⟨rfl, o1⟩
            have O1 := hide (Old.trans HO.out o1)
            clear o1
            go_wp2_with fail
            go_ret3
            exact ⟨by rw [FIN.out]; rfl, O1.out⟩
          | ok x =>
            obtain ⟨t1, r1⟩ := x
            obtain ⟨g1, g2, g3⟩ := GO.out t1 r1 (piece_esc.trans he)
            have HS := hide (suf_drop (s := s) (k := k + 1) (l := r1) (by rw [hr.out]; exact escV_suf he))
            rw [he, unqE_ok] at CE
            simp only [List.length_cons] at g3
            obtain ⟨m, hm⟩ : ∃ m, u.size - r1.length = m := ⟨_, rfl⟩
            rw [hm] at CE
            have hmk : k + m = s.size - r1.length := by omega
            have hm1 : 1 ≤ m := by omega
            have hms : k + m ≤ s.size := by omega
            have HR2 := hide (show R = restU (t ++ t1) (s.data.toList.drop (k + m)) by rw [hmk, HS.out]; exact g1)
            have HL := hide (show (t ++ t1).length ≤ 4 * (k + m) by rw [List.length_append]; omega)
            clear GO BAD he c92 g1 g3 hm hmk
            go_wp2_with fail
            rw [hu.out]
            refine CE.out.mono ?_
            rintro e w1 ⟨rfl, o1⟩
            have O1 := hide (Old.trans HO.out o1)
            have B1 := hide (own_old HB.out o1)
            clear o1
            go_wp2_with (at_builtin; refine wpl_push_str _ rfl _ _ rfl w.heap.size _ t rfl B1.out _ rfl t1 rfl (by omega) O1.out.size ?_; intro v' w2 own2 b2)
            have OW := hide own2
            have O2 := hide (Below.trans O1.out b2)
            clear own2 b2
            go_wp2_with fail
            go_roundw
            case rel => exact ⟨k + m, t ++ t1, by go_num, by omega, hms, HL.out, OW, O2, HR2⟩
            case measure => simp [intOf]; omega
        · have hq3 : ((c.toNat : Int) == 92) = false := by
            have : c.toNat ≠ 92 := fun e => c92 (UInt8.toNat_inj.1 e)
            simp; omega
          have PP := hide (piece_plain (r := r) c92 (by omega))
          have CN := hide (next_parts2 u wr)
          have hun : nextN u = runeN (c :: r) := by
            rw [← rune_next _ (by simp), ← hul, txt_of]
          rw [hun] at CN
          obtain ⟨N, hN⟩ : ∃ N, runeN (c :: r) = N := ⟨_, rfl⟩
          have hN4 : N ≤ (c :: r).length := by
            rw [← hN, ← hun, ← hul, list_size]
            exact nextN_bd u
          rw [hN] at CN PP
          clear c92 hun hN
          simp only [List.length_cons] at hN4
          by_cases hN0 : N = 0
          · subst hN0
            have CB := fun w1 => rbegins_run u w1 (by omega) (by omega)
            rw [hul, begins_full (by simp)] at CB
            cases hf : fullB (c :: r) with
            | false =>
              have FIN := hide (BAD.out 3 (by rw [PP.out, hf]; rfl))
              rw [hf] at CB
              have CB := hide CB
              clear PP GO BAD hf
              go_wp2_with fail
              rw [hu.out]
              refine CN.out.mono ?_
              rintro e w1 ⟨⟨rr, rfl⟩, o1⟩
              have O1 := hide (Old.trans HO.out o1)
              clear o1
              go_wp2_with fail
              rw [hu.out]
              refine (CB.out w1).mono ?_
              rintro e w2 ⟨rfl, o2⟩
              have O2 := hide (Old.trans O1.out o2)
              clear o2
              go_wp2_with fail
              go_ret3
              exact ⟨by rw [FIN.out]; rfl, O2.out⟩
            | true =>
              have FIN := hide (BAD.out 40 (by rw [PP.out, hf]; rfl))
              rw [hf] at CB
              have CB := hide CB
              clear PP GO BAD hf
              go_wp2_with fail
              rw [hu.out]
              refine CN.out.mono ?_
              rintro e w1 ⟨⟨rr, rfl⟩, o1⟩
              have O1 := hide (Old.trans HO.out o1)
              clear o1
              go_wp2_with fail
              rw [hu.out]
              refine (CB.out w1).mono ?_
              rintro e w2 ⟨rfl, o2⟩
              have O2 := hide (Old.trans O1.out o2)
              clear o2
              go_wp2_with fail
              go_ret3
              exact ⟨by rw [FIN.out]; rfl, O2.out⟩
          · have hNb : decide (N ≠ 0) = true := decide_eq_true hN0
            obtain ⟨g1, g2, g3⟩ := GO.out ((c :: r).take N) ((c :: r).drop N) (by rw [PP.out, if_pos hN0])
            have HX := hide (show s.extract k (k + N) = bT ((c :: r).take N) by rw [ext_take, HD.out])
            have HR2 := hide (show R = restU (t ++ (c :: r).take N) (s.data.toList.drop (k + N)) by rw [← List.drop_drop, HD.out]; exact g1)
            obtain ⟨t1, ht1⟩ : ∃ t1, (c :: r).take N = t1 := ⟨_, rfl⟩
            rw [ht1] at HX HR2 g2
            have HL := hide (show (t ++ t1).length ≤ 4 * (k + N) by rw [List.length_append]; omega)
            have hNs : k + N ≤ s.size := by omega
            have hNsi : (k : Int) + (N : Int) ≤ (s.size : Int) := by omega
            rw [hNb] at CN
            have hN1 : 1 ≤ N := by omega
            clear GO BAD PP g1 g3 ht1 hNb hN0
            go_wp2_with fail
            rw [hu.out]
            refine CN.out.mono ?_
            rintro e w1 ⟨⟨rr, rfl⟩, o1⟩
            have O1 := hide (Old.trans HO.out o1)
            have B1 := hide (own_old HB.out o1)
            clear o1
            go_wp2_with (at_builtin; refine wpl_push_str _ rfl _ _ rfl w.heap.size _ t rfl B1.out _ rfl t1 (by first | exact HX.out | (simp only [Int.toNat_natCast]; exact HX.out)) (by omega) O1.out.size ?_; intro v' w2 own2 b2)
            have OW := hide own2
            have O2 := hide (Below.trans O1.out b2)
            clear own2 b2
            go_wp2_with fail
            go_roundw
            case rel => exact ⟨k + N, t ++ t1, by go_num, by omega, hNs, HL.out, OW, O2, HR2⟩
            case measure => simp [intOf]; omega
      · have FIN := hide (show R = .error 3 by rw [HR.out, List.drop_eq_nil_of_le (by rw [list_size]; omega)]; exact restU_nil t)
        have hlti : ¬ (k : Int) < (s.size : Int) := by omega
        go_wp2_with fail
        go_ret3
        exact ⟨by rw [FIN.out]; rfl, HO.out⟩
  · have FIN := hide (show R = .error 41 by
      rw [← hR.out, hd0]
      simp only [unqV]
      rw [if_pos h34])
    have hq : ((c.toNat : Int) != 34) = true := by
      have : c.toNat ≠ 34 := fun e => h34 (UInt8.toNat_inj.1 e)
      simp; omega
    clear hd0 h34
    go_enter Tryz.func53, Tryz.ntmps53
    go_wp2_with fail
    go_ret3
    exact ⟨by rw [FIN.out]; rfl, Old.refl _⟩
end Go.Proofs.YtdlcibbbebhcoaaGreatDoor
