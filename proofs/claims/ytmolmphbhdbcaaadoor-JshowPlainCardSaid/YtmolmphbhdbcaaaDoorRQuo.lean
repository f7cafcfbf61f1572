/- The document's Quote. -/
import Derived.Test.YtmolmphbhdbcaaaDoorQuoteL
import Derived.Test.YtmolmphbhdbcaaaDoorTail
import Derived.Test.YtmolmphbhdbcaaaDoorQuoW
import Derived.Laws.IdiomStrings
import Derived.Deep.CutBlock
import Derived.Deep.RegionHeld3
import Derived.Deep.DeepCutAuto
namespace Go.Proofs.YtmolmphbhdbcaaaDoor
open Go.RowKit

abbrev BytesOwn (base : Nat) (w : World) (v : Value) (l : List UInt8) : Prop := w.ownsRow base 5 1 v l.length (Lib.byteCells l)
theorem bytes_one (q : List UInt8) : ∀ u ∈ Lib.byteCells q, u.oneCell' = true := by
  intro u hu
  obtain ⟨b, _, rfl⟩ := List.mem_map.1 hu
  rfl
theorem bytes_lit (w : World) (q : List UInt8) (c : Array Value) (h : c.toList = Lib.byteCells q) (hl : q.length ≤ 1048576) : Sl (w.alloc (.cells c 5)) (.slice (some ⟨w.heap.size, 0, none⟩) q.length q.length) q.length (Lib.byteCells q) := by
  refine ⟨_, _, rfl, Nat.le_refl _, by unfold maxLen; omega, fun _ => ⟨w.heap.size, 0, rfl, fun j u hu => ?_⟩⟩
  rw [Nat.zero_add, cell_of_heap (heap_alloc_new w _)]
  rw [← h] at hu
  simpa using hu
theorem own_byte (w : World) (b : UInt8) : BytesOwn w.heap.size (w.alloc (.cells #[.int .u8 b.toNat] 5)) (.slice (some ⟨w.heap.size, 0, none⟩) 1 1) [b] :=
  World.ownsRow_lit w #[.int .u8 b.toNat] 1 (Nat.le_refl _) (by unfold maxLen; omega) rfl
/-- append of bytes -/
theorem step_push_bytes {o : Oper} {a : Act} {K : Act → World → Prop} {Q : Exit → Act → World → Prop} (w : World) (s x : Operand)
    (ho : o.op = .call { callee := .builtin .append, args := #[s, x], argTypes := #[48, 48] })
    (base : Nat) (v : Value) (r : List UInt8) (hs : a.eval s = v) (hown : BytesOwn base w v r)
    (xv : Value) (q : List UInt8) (hev : a.eval x = xv) (hx : Sl w xv q.length (Lib.byteCells q)) (hlen : r.length + q.length ≤ 140737488355328) (hbase : base ≤ w.heap.size)
    (h : ∀ v' w', BytesOwn base w' v' (r ++ q) → Below base w w' → K (a.put o.dst v') w') : o.wp Tryd.prog a w K Q := by
  obtain ⟨i0, hi, hz0, hz1, hz2⟩ := info_parts infoB
  refine wp_append_sl w s x 48 ho base 5 i0 _ 1 1 Tryd.underlying48 hi hz0 hz1 hz2 rfl (by omega) v r.length (Lib.byteCells r) hs hown
    xv q.length (Lib.byteCells q) hev hx (by rw [Lib.byteCells_length]; omega) (bytes_one q) (by unfold maxLen; omega) (by omega) hbase ?_
  intro v' w' own' hg
  refine h v' w' ?_ (Below.grown (Below.refl base w) hg hbase fun k hk => (hown.lt k hk).1)
  unfold BytesOwn
  rw [Lib.byteCells_append, List.length_append]
  exact own'
theorem hexI {k : Nat} (h : k < 16) (w : World) : (Instr.index 9 (.string ⟨#[48, 49, 50, 51, 52, 53, 54, 55, 56, 57, 97, 98, 99, 100, 101, 102]⟩) (.int .u8 (k : Int))).run Tryd.prog w = .ok (.int .u8 (hexB k).toNat) w := by
  have key : ∀ k : Fin 16, ((⟨#[48, 49, 50, 51, 52, 53, 54, 55, 56, 57, 97, 98, 99, 100, 101, 102]⟩ : ByteArray)[k.val]'k.isLt) = hexB k.val := by decide +kernel
  rw [run_index_string w _ _ _ _ Tryd.underlying9]
  rw [dif_pos (show (0 : Int) ≤ (k : Int) ∧ (k : Int) < (((⟨#[48, 49, 50, 51, 52, 53, 54, 55, 56, 57, 97, 98, 99, 100, 101, 102]⟩ : ByteArray).size : Nat) : Int) from ⟨by omega, by show (k : Int) < ((16 : Nat) : Int); omega⟩)]
  rw [← key ⟨k, h⟩]
  rfl
theorem hexG {k : Nat} (h : k < 16) : (⟨#[48, 49, 50, 51, 52, 53, 54, 55, 56, 57, 97, 98, 99, 100, 101, 102]⟩ : ByteArray)[k]'h = hexB k := by
  have key : ∀ k : Fin 16, ((⟨#[48, 49, 50, 51, 52, 53, 54, 55, 56, 57, 97, 98, 99, 100, 101, 102]⟩ : ByteArray)[k.val]'k.isLt) = hexB k.val := by decide +kernel
  exact key ⟨k, h⟩
theorem conv_own {base : Nat} {w : World} {v : Value} {l : List UInt8} (h : BytesOwn base w v l) (hl : l ≠ []) : (convert 48 9 v).run Tryd.prog w = .ok (.string ⟨l.toArray⟩) w := by
  rcases h.2 with ⟨_, hz⟩ | ⟨g, cap, cur, rfl, hb, hg, h1, h2, h3, h4⟩
  · exact absurd (List.length_eq_zero_iff.1 hz) hl
  · refine run_convert_bytes_back w _ _ 5 ⟨g, 0, none⟩ cap l Tryd.underlying48 Tryd.underlying5 Tryd.underlying9 fun j hj => ?_
    have hc : cur.toList[j]? = some (.int .u8 (l[j].toNat : Int)) := by
      have h5 : (cur.toList.take (l.length * 1))[j]? = (Lib.byteCells l)[j]? := by rw [h4]
      rw [List.getElem?_take_of_lt (by omega)] at h5
      rw [h5]
      simp [Lib.byteCells, hj]
    have := cell_of_heap (i := 0 + j) hg
    simp [Addr.add] at this ⊢
    rw [show (if j = 0 then ({ block := g, off := 0 } : Addr) else { block := g, off := j }) = { block := g, off := j } by split <;> simp_all, this]
    simpa using hc
set_option maxRecDepth 100000 in
set_option maxHeartbeats 4000000 in
theorem rquote_ok (s : ByteArray) (w : World) (hs : s.size ≤ 17592186044416) (hv : vU s = true) :
    Calls Tryd.prog 53 #[.string s] w fun e w' => e = .returned (.tuple #[.string ⟨(quoteL s).toArray⟩, .int .i64 0]) ∧ Old w w' := by
  have CV := ref_Valid' s w (by omega)
  rw [hv] at CV
  go_enter Tryd.func53, Tryd.ntmps53
  go_wp2_with fail
  refine CV.mono ?_
  rintro e w1 ⟨rfl, o1⟩
  have O1 := hide o1
  clear o1 CV
  go_wp2_with fail
  go_loopw [4, 5] (fun ov iv wr => ∃ k : Nat, iv = .int .i64 k ∧ k ≤ s.size ∧ Hid (BytesOwn w1.heap.size wr ov (litTo s k)) ∧ Hid (Old w1 wr)) (fun _ iv _ => s.size - (intOf iv).toNat)
  case atStart => exact ⟨0, rfl, Nat.zero_le _, hide (own_byte w1 34), hide (Old.alloc (Old.refl _) _)⟩
  case round =>
    obtain ⟨k, rfl, hk, HB, HO⟩ := hrel
    have hll := litTo_len s k
    by_cases hlt : k < s.size
    · have gk := get_at s hlt
      obtain ⟨b, hb⟩ : ∃ b, Hid (s.get! k = b) := ⟨_, hide rfl⟩
      rw [hb.out] at gk
      have hnx := litTo_next s k 1
      have ht1 : (restL s k).take 1 = [b] := by
        have e2 : s.data.toList.length = s.size := Array.length_toList
        have hb2 := hb.out
        unfold restL
        rw [List.drop_eq_getElem_cons (by omega), List.take_succ_cons, List.take_zero]
        congr 1
      rw [ht1, escL_one] at hnx
      have HNX := hide hnx
      clear hnx ht1
      by_cases h34 : b = 34
      · have e1 : esc1 b = [92, 34] := by rw [h34]; rfl
        have hn : (b.toNat : Int) = 34 := by rw [h34]; rfl
        have HN2 := HNX.out
        rw [e1] at HN2
        have HN3 := hide HN2
        clear HN2 e1 HNX h34
        go_wp2_with (at_builtin; refine wpList_plain rfl (fun K hK => ?_); refine step_push_bytes _ _ _ rfl w1.heap.size _ (litTo s k) rfl (own_old HB.out (Old.alloc (Old.refl _) _)) _ [92, 34] rfl (bytes_lit _ [92, 34] _ rfl (by simp)) (by simp; omega) (HO.out.alloc _).size ?_; intro v' w2 own2 kept2; refine hK _ _ ?_; clear hK)
        rw [← HN3.out] at own2
        have OW2 := hide own2
        have O2 := hide (Below.trans (HO.out.alloc _) (Below.mono kept2 (Nat.le_refl _)))
        clear own2 kept2
        go_wp2_with fail
        go_roundw
        case rel => exact ⟨k + 1, by go_num, by omega, OW2, O2⟩
        case measure => simp [intOf]; omega
      have n34 : ¬ (b.toNat : Int) = 34 := fun e => h34 (UInt8.toNat_inj.1 (by rw [show ((34 : UInt8).toNat) = 34 from rfl]; omega))
      by_cases h92 : b = 92
      · have e1 : esc1 b = [92, 92] := by rw [h92]; rfl
        have hn : (b.toNat : Int) = 92 := by rw [h92]; rfl
        have HN2 := HNX.out
        rw [e1] at HN2
        have HN3 := hide HN2
        clear HN2 e1 HNX h92
        go_wp2_with (at_builtin; refine wpList_plain rfl (fun K hK => ?_); refine step_push_bytes _ _ _ rfl w1.heap.size _ (litTo s k) rfl (own_old HB.out (Old.alloc (Old.refl _) _)) _ [92, 92] rfl (bytes_lit _ [92, 92] _ rfl (by simp)) (by simp; omega) (HO.out.alloc _).size ?_; intro v' w2 own2 kept2; refine hK _ _ ?_; clear hK)
        rw [← HN3.out] at own2
        have OW2 := hide own2
        have O2 := hide (Below.trans (HO.out.alloc _) (Below.mono kept2 (Nat.le_refl _)))
        clear own2 kept2
        go_wp2_with fail
        go_roundw
        case rel => exact ⟨k + 1, by go_num, by omega, OW2, O2⟩
        case measure => simp [intOf]; omega
      have n92 : ¬ (b.toNat : Int) = 92 := fun e => h92 (UInt8.toNat_inj.1 (by rw [show ((92 : UInt8).toNat) = 92 from rfl]; omega))
      by_cases h8 : b = 8
      · have e1 : esc1 b = [92, 98] := by rw [h8]; rfl
        have hn : (b.toNat : Int) = 8 := by rw [h8]; rfl
        have HN2 := HNX.out
        rw [e1] at HN2
        have HN3 := hide HN2
        clear HN2 e1 HNX h8
        go_wp2_with (at_builtin; refine wpList_plain rfl (fun K hK => ?_); refine step_push_bytes _ _ _ rfl w1.heap.size _ (litTo s k) rfl (own_old HB.out (Old.alloc (Old.refl _) _)) _ [92, 98] rfl (bytes_lit _ [92, 98] _ rfl (by simp)) (by simp; omega) (HO.out.alloc _).size ?_; intro v' w2 own2 kept2; refine hK _ _ ?_; clear hK)
        rw [← HN3.out] at own2
        have OW2 := hide own2
        have O2 := hide (Below.trans (HO.out.alloc _) (Below.mono kept2 (Nat.le_refl _)))
        clear own2 kept2
        go_wp2_with fail
        go_roundw
        case rel => exact ⟨k + 1, by go_num, by omega, OW2, O2⟩
        case measure => simp [intOf]; omega
      have n8 : ¬ (b.toNat : Int) = 8 := fun e => h8 (UInt8.toNat_inj.1 (by rw [show ((8 : UInt8).toNat) = 8 from rfl]; omega))
      by_cases h12 : b = 12
      · have e1 : esc1 b = [92, 102] := by rw [h12]; rfl
        have hn : (b.toNat : Int) = 12 := by rw [h12]; rfl
        have HN2 := HNX.out
        rw [e1] at HN2
        have HN3 := hide HN2
        clear HN2 e1 HNX h12
        go_wp2_with (at_builtin; refine wpList_plain rfl (fun K hK => ?_); refine step_push_bytes _ _ _ rfl w1.heap.size _ (litTo s k) rfl (own_old HB.out (Old.alloc (Old.refl _) _)) _ [92, 102] rfl (bytes_lit _ [92, 102] _ rfl (by simp)) (by simp; omega) (HO.out.alloc _).size ?_; intro v' w2 own2 kept2; refine hK _ _ ?_; clear hK)
        rw [← HN3.out] at own2
        have OW2 := hide own2
        have O2 := hide (Below.trans (HO.out.alloc _) (Below.mono kept2 (Nat.le_refl _)))
        clear own2 kept2
        go_wp2_with fail
        go_roundw
        case rel => exact ⟨k + 1, by go_num, by omega, OW2, O2⟩
        case measure => simp [intOf]; omega
      have n12 : ¬ (b.toNat : Int) = 12 := fun e => h12 (UInt8.toNat_inj.1 (by rw [show ((12 : UInt8).toNat) = 12 from rfl]; omega))
      by_cases h10 : b = 10
      · have e1 : esc1 b = [92, 110] := by rw [h10]; rfl
        have hn : (b.toNat : Int) = 10 := by rw [h10]; rfl
        have HN2 := HNX.out
        rw [e1] at HN2
        have HN3 := hide HN2
        clear HN2 e1 HNX h10
        go_wp2_with (at_builtin; refine wpList_plain rfl (fun K hK => ?_); refine step_push_bytes _ _ _ rfl w1.heap.size _ (litTo s k) rfl (own_old HB.out (Old.alloc (Old.refl _) _)) _ [92, 110] rfl (bytes_lit _ [92, 110] _ rfl (by simp)) (by simp; omega) (HO.out.alloc _).size ?_; intro v' w2 own2 kept2; refine hK _ _ ?_; clear hK)
        rw [← HN3.out] at own2
        have OW2 := hide own2
        have O2 := hide (Below.trans (HO.out.alloc _) (Below.mono kept2 (Nat.le_refl _)))
        clear own2 kept2
        go_wp2_with fail
        go_roundw
        case rel => exact ⟨k + 1, by go_num, by omega, OW2, O2⟩
        case measure => simp [intOf]; omega
      have n10 : ¬ (b.toNat : Int) = 10 := fun e => h10 (UInt8.toNat_inj.1 (by rw [show ((10 : UInt8).toNat) = 10 from rfl]; omega))
      by_cases h13 : b = 13
      · have e1 : esc1 b = [92, 114] := by rw [h13]; rfl
        have hn : (b.toNat : Int) = 13 := by rw [h13]; rfl
        have HN2 := HNX.out
        rw [e1] at HN2
        have HN3 := hide HN2
        clear HN2 e1 HNX h13
        go_wp2_with (at_builtin; refine wpList_plain rfl (fun K hK => ?_); refine step_push_bytes _ _ _ rfl w1.heap.size _ (litTo s k) rfl (own_old HB.out (Old.alloc (Old.refl _) _)) _ [92, 114] rfl (bytes_lit _ [92, 114] _ rfl (by simp)) (by simp; omega) (HO.out.alloc _).size ?_; intro v' w2 own2 kept2; refine hK _ _ ?_; clear hK)
        rw [← HN3.out] at own2
        have OW2 := hide own2
        have O2 := hide (Below.trans (HO.out.alloc _) (Below.mono kept2 (Nat.le_refl _)))
        clear own2 kept2
        go_wp2_with fail
        go_roundw
        case rel => exact ⟨k + 1, by go_num, by omega, OW2, O2⟩
        case measure => simp [intOf]; omega
      have n13 : ¬ (b.toNat : Int) = 13 := fun e => h13 (UInt8.toNat_inj.1 (by rw [show ((13 : UInt8).toNat) = 13 from rfl]; omega))
      by_cases h9 : b = 9
      · have e1 : esc1 b = [92, 116] := by rw [h9]; rfl
        have hn : (b.toNat : Int) = 9 := by rw [h9]; rfl
        have HN2 := HNX.out
        rw [e1] at HN2
        have HN3 := hide HN2
        clear HN2 e1 HNX h9
        go_wp2_with (at_builtin; refine wpList_plain rfl (fun K hK => ?_); refine step_push_bytes _ _ _ rfl w1.heap.size _ (litTo s k) rfl (own_old HB.out (Old.alloc (Old.refl _) _)) _ [92, 116] rfl (bytes_lit _ [92, 116] _ rfl (by simp)) (by simp; omega) (HO.out.alloc _).size ?_; intro v' w2 own2 kept2; refine hK _ _ ?_; clear hK)
        rw [← HN3.out] at own2
        have OW2 := hide own2
        have O2 := hide (Below.trans (HO.out.alloc _) (Below.mono kept2 (Nat.le_refl _)))
        clear own2 kept2
        go_wp2_with fail
        go_roundw
        case rel => exact ⟨k + 1, by go_num, by omega, OW2, O2⟩
        case measure => simp [intOf]; omega
      have n9 : ¬ (b.toNat : Int) = 9 := fun e => h9 (UInt8.toNat_inj.1 (by rw [show ((9 : UInt8).toNat) = 9 from rfl]; omega))
      have nor : (((b.toNat : Int) == 34) || ((b.toNat : Int) == 92)) = false := by simp [n34, n92]
      by_cases hlo : (b.toNat : Int) < 32
      · have e1 : esc1 b = [92, 117, 48, 48, hexB (b.toNat / 16), hexB (b.toNat % 16)] := by
          unfold esc1
          rw [if_neg (by simp [h34, h92]), if_neg h8, if_neg h12, if_neg h10, if_neg h13, if_neg h9, if_pos (by omega)]
        have HN2 := HNX.out
        rw [e1] at HN2
        have HN3 := hide HN2
        clear HN2 e1 HNX h34 h92 h8 h12 h10 h13 h9
        obtain ⟨m, hm⟩ : ∃ m, Hid (b.toNat / 16 = m) := ⟨_, hide rfl⟩
        obtain ⟨r, hr⟩ : ∃ r, Hid (b.toNat % 16 = r) := ⟨_, hide rfl⟩
        have hm16 : m < 16 := by have := hm.out; omega
        have hr16 : r < 16 := by have := hr.out; omega
        have q1 : IntKind.u8.wrap ((b.toNat : Int) / 16) = (m : Int) := by
          rw [← hm.out]
          simp [IntKind.wrap, IntKind.bits, IntKind.signed]
          omega
        have q2 : (b.toNat : Int).tmod 16 = (r : Int) := by rw [← hr.out]; rfl
        have x1 := hexI hm16
        have x2 := hexI hr16
        have z1 := hexG hm16
        have z2 := hexG hr16
        rw [hm.out, hr.out] at HN3
        go_wp2_with fail
        have ho := HO.out
        go_region_held3 (fun w' => Old w1 w')
          (first | assumption | (exact Old.drew ho) | (exact Old.alloc (by assumption) _) | (exact Below.trans (by assumption) (by assumption)))
          (first | (refine step_push_bytes _ _ _ rfl w1.heap.size _ (litTo s k) rfl (own_old HB.out (Old.alloc (Old.drew (Old.refl _)) _)) _ [92, 117, 48, 48, hexB m, hexB r] rfl (bytes_lit _ [92, 117, 48, 48, hexB m, hexB r] _ rfl (by simp)) (by simp; omega) (by have := (HO.out.drew.alloc (.cells #[] 5)).size; simpa using this) ?_; intro v' w2 own2 kept2))
        all_goals
          rw [← HN3.out] at own2
          have OW2 := hide own2
          have O2 := hide (show Old w1 w2 by assumption)
          clear own2 kept2
          go_wp2_with fail
          go_roundw
          case rel => exact ⟨k + 1, by go_num, by omega, OW2, O2⟩
          case measure => simp [intOf]; omega
      · have e1 : esc1 b = [b] := by
          unfold esc1
          rw [if_neg (by simp [h34, h92]), if_neg h8, if_neg h12, if_neg h10, if_neg h13, if_neg h9, if_neg (by omega)]
        have HN2 := HNX.out
        rw [e1] at HN2
        have HN3 := hide HN2
        clear HN2 e1 HNX h34 h92 h8 h12 h10 h13 h9
        go_wp2_with (at_builtin; refine wpList_plain rfl (fun K hK => ?_); refine step_push_bytes _ _ _ rfl w1.heap.size _ (litTo s k) rfl (own_old HB.out (Old.alloc (Old.refl _) _)) _ [b] rfl (bytes_lit _ [b] _ rfl (by simp)) (by simp; omega) (HO.out.alloc _).size ?_; intro v' w2 own2 kept2; refine hK _ _ ?_; clear hK)
        rw [← HN3.out] at own2
        have OW2 := hide own2
        have O2 := hide (Below.trans (HO.out.alloc _) (Below.mono kept2 (Nat.le_refl _)))
        clear own2 kept2
        go_wp2_with fail
        go_roundw
        case rel => exact ⟨k + 1, by go_num, by omega, OW2, O2⟩
        case measure => simp [intOf]; omega
    · have hps : k = s.size := by omega
      have hq := litTo_all s
      rw [← hps] at hq
      have HQ := hide hq
      have hql := (quoteL_len s).2
      clear hq hps
      go_wp2_with (at_builtin; refine wpList_plain rfl (fun K hK => ?_); refine step_push_bytes _ _ _ rfl w1.heap.size _ (litTo s k) rfl (own_old HB.out (Old.alloc (Old.refl _) _)) _ [34] rfl (bytes_lit _ [34] _ rfl (by simp)) (by simp; omega) (HO.out.alloc _).size ?_; intro v' w2 own2 kept2; refine hK _ _ ?_; clear hK)
      rw [HQ.out] at own2
      have hcv := conv_own own2 (by simp [quoteL])
      have OF := hide (Old.trans O1.out (Below.trans (HO.out.alloc _) (Below.mono kept2 (Nat.le_refl _))))
      clear own2 kept2
      rw [hcv]
      go_wp2_with fail
      go_ret2
      exact ⟨rfl, OF.out⟩
set_option maxRecDepth 100000 in
theorem rquote_bad (s : ByteArray) (w : World) (hs : s.size ≤ 17592186044416) (hv : vU s = false) :
    Calls Tryd.prog 53 #[.string s] w fun e w' => e = .returned (.tuple #[.string ⟨#[]⟩, .int .i64 40]) ∧ Old w w' := by
  have CV := ref_Valid' s w (by omega)
  rw [hv] at CV
  clear hv
  go_enter Tryd.func53, Tryd.ntmps53
  go_wp2_with fail
  refine CV.mono ?_
  rintro e w1 ⟨rfl, o1⟩
  have O1 := hide o1
  clear o1 CV
  go_wp2_with fail
  go_ret2
  exact ⟨rfl, O1.out⟩
end Go.Proofs.YtmolmphbhdbcaaaDoor
