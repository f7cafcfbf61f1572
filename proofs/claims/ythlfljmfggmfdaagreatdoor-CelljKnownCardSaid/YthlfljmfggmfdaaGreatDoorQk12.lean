/-  -/
import Derived.Test.YthlfljmfggmfdaaGreatDoorQk03
import Derived.Test.YthlfljmfggmfdaaGreatDoorQk11
import Derived.Test.YthlfljmfggmfdaaGreatDoorQk09
import Derived.Deep.RegionHeld3
import Derived.Laws.BytesArg
import Derived.Laws.IdiomStrings
import Derived.Test.YthlfljmfggmfdaaGreatDoorQk01
import Derived.RegionTactic
/-! ###  -/
namespace Go.Proofs.YthlfljmfggmfdaaGreatDoor
open Go.RowKit
abbrev BysOwn (base : Nat) (w : World) (v : Value) (l : List UInt8) : Prop := w.ownsRow base 5 1 v l.length (Lib.byteCells l)
theorem bys_one (q : List UInt8) : ∀ u ∈ Lib.byteCells q, u.oneCell' = true := by
 intro u hu
 obtain ⟨b, _, rfl⟩ := List.mem_map.1 hu
 rfl
theorem bys_lit (w : World) (q : List UInt8) (c : Array Value) (h : c.toList = Lib.byteCells q) (hl : q.length ≤ 1048576) : Sl (w.alloc (.cells c 5)) (.slice (some ⟨w.heap.size, 0, none⟩) q.length q.length) q.length (Lib.byteCells q) := by
 refine ⟨_, _, rfl, Nat.le_refl _, by unfold maxLen; omega, fun _ => ⟨w.heap.size, 0, rfl, fun j u hu => ?_⟩⟩
 rw [Nat.zero_add, cell_of_heap (heap_alloc_new w _)]
 rw [← h] at hu
 simpa using hu
theorem push_bys {o : Oper} {a : Act} {K : Act → World → Prop} {Q : Exit → Act → World → Prop} (w : World) (s x : Operand)
 (ho : o.op = .call { callee := .builtin .append, args := #[s, x], argTypes := #[57, 57] })
 (base : Nat) (v : Value) (r : List UInt8) (hs : a.eval s = v) (hown : BysOwn base w v r)
 (xv : Value) (q : List UInt8) (hev : a.eval x = xv) (hx : Sl w xv q.length (Lib.byteCells q)) (hlen : r.length + q.length ≤ 140737488355328) (hbase : base ≤ w.heap.size)
 (h : ∀ v' w', BysOwn base w' v' (r ++ q) → Below base w w' → K (a.put o.dst v') w') : o.wp Tryz.prog a w K Q := by
 obtain ⟨i0, hi, hz0, hz1, hz2⟩ := info_parts infoB
 refine wp_append_sl w s x 57 ho base 5 i0 _ 1 1 Tryz.underlying57 hi hz0 hz1 hz2 rfl (by omega) v r.length (Lib.byteCells r) hs hown
  xv q.length (Lib.byteCells q) hev hx (by rw [Lib.byteCells_length]; omega) (bys_one q) (by unfold maxLen; omega) (by omega) hbase ?_
 intro v' w' own' hg
 refine h v' w' ?_ (Below.grown (Below.refl base w) hg hbase fun k hk => (hown.lt k hk).1)
 unfold BysOwn
 rw [Lib.byteCells_append, List.length_append]
 exact own'
theorem conv_bys {base : Nat} {w : World} {v : Value} {l : List UInt8} (h : BysOwn base w v l) (hl : l = [] → v = .slice none 0 0) : (convert 57 9 v).run Tryz.prog w = .ok (.string ⟨l.toArray⟩) w := by
 by_cases hn : l = []
 · rw [hl hn, hn]
   exact run_convert_bytes_nil _ 57 5 Tryz.underlying57 Tryz.underlying5 0 0 9 Tryz.underlying9
 rcases h.2 with ⟨_, hz⟩ | ⟨g, cap, cur, rfl, hb, hg, h1, h2, h3, h4⟩
 · exact absurd (List.length_eq_zero_iff.1 hz) hn
 · refine run_convert_bytes_back w _ _ 5 ⟨g, 0, none⟩ cap l Tryz.underlying57 Tryz.underlying5 Tryz.underlying9 fun j hj => ?_
   have hc : cur.toList[j]? = some (.int .u8 (l[j].toNat : Int)) := by
    have h5 : (cur.toList.take (l.length * 1))[j]? = (Lib.byteCells l)[j]? := by rw [h4]
    rw [List.getElem?_take_of_lt (by omega)] at h5
    rw [h5]
    simp [Lib.byteCells, hj]
   have := cell_of_heap (i := 0 + j) hg
   simp [Addr.add] at this ⊢
   rw [show (if j = 0 then ({ block := g, off := 0 } : Addr) else { block := g, off := j }) = { block := g, off := j } by split <;> simp_all, this]
   simpa using hc
def dI (c : UInt8) : Int := match hexV? c with
 | some n => (n : Int)
 | none => -1
def dTo (c : UInt8) (k : Nat) : Int := match hexV? c with
 | some n => if n < k then (n : Int) else -1
 | none => -1
theorem dTo_zero (c : UInt8) : dTo c 0 = -1 := by unfold dTo; cases hexV? c <;> simp
theorem dTo_hit {c : UInt8} {k : Nat} (hk : k < 16) (h : hexD k = c) : dTo c (k + 1) = (k : Int) := by
 unfold dTo
 rw [← h, hexV_hexD hk]
 simp
theorem dTo_miss {c : UInt8} {k : Nat} (h : hexD k ≠ c) : dTo c (k + 1) = dTo c k := by
 unfold dTo
 cases e : hexV? c with
 | none => rfl
 | some n =>
   have h2 : n ≠ k := by
    rintro rfl
    exact h (hexV_inv e).2
   simp only
   by_cases h3 : n < k
   · rw [if_pos h3, if_pos (by omega)]
   · rw [if_neg h3, if_neg (by omega)]
theorem dTo_all (c : UInt8) : dTo c 16 = dI c := by
 unfold dTo dI
 cases e : hexV? c with
 | none => rfl
 | some n => simp only; rw [if_pos (hexV_inv e).1]
theorem hexC_at {k : Nat} (h : k < 16) : HexS[k]'h = hexD k := by
 have key : ∀ k : _root_.Fin 16, HexS[k.val]'k.isLt = hexD k.val := by decide +kernel
 exact key ⟨k, h⟩
def outE : List UInt8 → List UInt8
 | [] => []
 | [a] => [(nib a * 16).toUInt8]
 | a :: b :: l => (nib a * 16 + nib b).toUInt8 :: outE l
theorem outE_even : ∀ {l : List UInt8}, l.length % 2 = 0 → outE l = unhexP l
 | [], _ => by simp [outE, unhexP]
 | [_], h => by simp at h
 | a :: b :: l, h => by
   simp only [outE, unhexP]
   rw [outE_even (l := l) (by simp at h; omega)]
theorem outE_len : ∀ (l : List UInt8), (outE l).length = (l.length + 1) / 2
 | [] => by simp [outE]
 | [_] => by simp [outE]
 | a :: b :: l => by
   simp only [outE, List.length_cons, outE_len l]
   omega
theorem outE_one : ∀ {l : List UInt8} (c : UInt8), l.length % 2 = 0 → outE (l ++ [c]) = outE l ++ [(nib c * 16).toUInt8]
 | [], c, _ => by simp [outE]
 | [_], c, h => by simp at h
 | a :: b :: l, c, h => by
   simp only [outE, List.cons_append]
   rw [outE_one (l := l) c (by simp at h; omega)]
theorem outE_two : ∀ {l : List UInt8} (c : UInt8), l.length % 2 = 1 → ∃ x : Nat, x < 16 ∧ (outE l)[l.length / 2]? = some (x * 16).toUInt8 ∧ outE (l ++ [c]) = (outE l).set (l.length / 2) (x * 16 + nib c).toUInt8
 | [], c, h => by simp at h
 | [a], c, _ => ⟨nib a, nib_lt a, by simp [outE], by simp [outE]⟩
 | a :: b :: l, c, h => by
   obtain ⟨x, hx, h1, h2⟩ := outE_two (l := l) c (by simp at h; omega)
   have e : (a :: b :: l).length / 2 = l.length / 2 + 1 := by simp only [List.length_cons]; omega
   refine ⟨x, hx, ?_, ?_⟩
   · rw [e]
     simpa [outE] using h1
   · rw [e]
     simp only [List.cons_append, outE, List.set_cons_succ]
     rw [h2]
theorem take_nextC (s : ByteArray) {k : Nat} (h : k < s.size) : s.data.toList.take (k + 1) = s.data.toList.take k ++ [s.get! k] := by
 have hl : k < s.data.toList.length := by rw [Array.length_toList]; exact h
 rw [List.take_succ_eq_append_getElem hl]
 have := list_get s h
 rw [List.getElem?_eq_getElem hl] at this
 injection this with this
 rw [this]
theorem take_len (s : ByteArray) {k : Nat} (h : k ≤ s.size) : (s.data.toList.take k).length = k := by
 rw [List.length_take, Array.length_toList]
 show min k s.size = k
 omega
def unhexR (s : ByteArray) : Value := match unhexL s.data.toList with
 | some r => .tuple #[.string ⟨r.toArray⟩, .bool true]
 | none => .tuple #[.string ⟨#[]⟩, .bool false]
theorem unhexR_some {s : ByteArray} (h : s.size % 2 = 0) (hc : ∀ i, i < s.size → (hexV? (s.get! i)).isSome = true) : unhexR s = .tuple #[.string ⟨(outE s.data.toList).toArray⟩, .bool true] := by
 have hl : s.data.toList.length % 2 = 0 := by rw [Array.length_toList]; exact h
 unfold unhexR
 rw [unhexL_some hl (fun b hb => ?_), outE_even hl]
 obtain ⟨i, hi⟩ := List.mem_iff_getElem?.1 hb
 have hil : i < s.size := by
  rw [show s.size = s.data.toList.length from Array.length_toList.symm]
  exact (List.getElem?_eq_some_iff.1 hi).1
 have hv := (list_get s hil).symm.trans hi
 injection hv with hv
 rw [← hv]
 exact hc i hil
theorem unhexR_odd {s : ByteArray} (h : s.size % 2 ≠ 0) : unhexR s = .tuple #[.string ⟨#[]⟩, .bool false] := by
 unfold unhexR
 rw [unhexL_none (fun hh => h (by have := hh.1; rwa [Array.length_toList] at this))]
theorem unhexR_bad {s : ByteArray} {k : Nat} (hk : k < s.size) (h : hexV? (s.get! k) = none) : unhexR s = .tuple #[.string ⟨#[]⟩, .bool false] := by
 unfold unhexR
 rw [unhexL_none (fun hh => ?_)]
 have := hh.2 _ (List.mem_of_getElem? (list_get s hk))
 rw [h] at this
 cases this
theorem nib_val {c : UInt8} {n : Nat} (h : hexV? c = some n) : nib c = n := by unfold nib; rw [h]; rfl
theorem dI_val {c : UInt8} {n : Nat} (h : hexV? c = some n) : dI c = (n : Int) := by unfold dI; rw [h]
theorem dI_none {c : UInt8} (h : hexV? c = none) : dI c = -1 := by unfold dI; rw [h]
set_option maxRecDepth 100000 in
set_option maxHeartbeats 4000000 in
theorem runhex_run (s : ByteArray) (hs : s.size ≤ 1073741824) (w : World) : Calls Tryz.prog 96 #[.string s] w (Ret (unhexR s) w) := by
 unfold Ret
 have HS := hide (@unhexR_some s)
 have HB := hide (fun (k : Nat) (hk : k < s.size) (h : hexV? (s.get! k) = none) => unhexR_bad hk h)
 have HOD := hide (@unhexR_odd s)
 obtain ⟨R, hR⟩ : ∃ R, unhexR s = R := ⟨_, rfl⟩
 rw [hR] at HS HB HOD ⊢
 clear hR
 by_cases hpar : s.size % 2 = 0
 · have hpi : ((s.size : Int) % 2 != 0) = false := by simp; omega
   have HS2 := hide (HS.out hpar)
   clear HS HOD
   clear hpar
   go_enter Tryz.func96, Tryz.ntmps96
   go_wp2_with fail
   go_loopw [4, 5] (fun ov iv wr => ∃ k : Nat, iv = .int .i64 k ∧ k ≤ s.size ∧ Hid (k = 0 → ov = .slice none 0 0) ∧ Hid (BysOwn w.heap.size wr ov (outE (s.data.toList.take k))) ∧ Hid (∀ i, i < k → (hexV? (s.get! i)).isSome = true) ∧ Hid (Old w wr)) (fun _ iv _ => s.size - (intOf iv).toNat)
   case atStart => exact ⟨0, rfl, Nat.zero_le _, hide (fun _ => rfl), hide ⟨by simp [outE, Lib.byteCells], .inl ⟨rfl, rfl⟩⟩, hide (fun i h => by omega), hide (Old.refl _)⟩
   case round =>
    obtain ⟨k, rfl, hk, HZ, HBO, HK, HO⟩ := hrel
    by_cases hlt : k < s.size
    · have hli : (k : Int) < (s.size : Int) := by omega
      have gk := get_at s hlt
      have HN := hide (take_nextC s hlt)
      have HBK := hide (HB.out k hlt)
      obtain ⟨b, hb⟩ : ∃ b, Hid (s.get! k = b) := ⟨_, hide rfl⟩
      rw [hb.out] at gk HN HBK
      obtain ⟨wv, hwv⟩ : ∃ x, x = wr := ⟨_, rfl⟩
      subst hwv
      go_wp2_with fail
      go_loopw [6, 7] (fun dv kv wz => ∃ j : Nat, kv = .int .i64 j ∧ j ≤ 16 ∧ dv = .int .i64 (dTo b j) ∧ Hid (Old wv wz)) (fun _ kv _ => 16 - (intOf kv).toNat)
      case atStart => exact ⟨0, rfl, by omega, by rw [dTo_zero], hide (Old.refl _)⟩
      case round =>
       obtain ⟨j, rfl, hj, rfl, HO2⟩ := hrel
       by_cases hj16 : j < 16
       · have hji : (j : Int) < 16 := by omega
         have gj := hexC_at hj16
         have HHIT := hide (@dTo_hit b j hj16)
         have HMISS := hide (@dTo_miss b j)
         by_cases he : hexD j = b
         · have hbe : (((hexD j).toNat : Int) == (b.toNat : Int)) = true := by rw [he]; simp
           have hd := HHIT.out he
           clear HHIT HMISS he
           go_wp2_with fail
           go_region
           go_wp2_with fail
           go_roundw
           case rel => exact ⟨j + 1, by go_num, by omega, by rw [hd], hide (Old.drew HO2.out)⟩
           case measure => simp [intOf]; omega
         · have hbe : (((hexD j).toNat : Int) == (b.toNat : Int)) = false := by
            rw [beq_eq_false_iff_ne]
            intro e
            exact he (UInt8.toNat_inj.1 (by omega))
           have hd := HMISS.out he
           clear HHIT HMISS he
           go_wp2_with fail
           go_region
           go_wp2_with fail
           go_roundw
           case rel => exact ⟨j + 1, by go_num, by omega, by rw [hd], hide (Old.drew HO2.out)⟩
           case measure => simp [intOf]; omega
       · have hji : ¬ (j : Int) < 16 := by omega
         obtain rfl : j = 16 := by omega
         rw [dTo_all]
         have O2 := hide (Old.trans HO.out HO2.out)
         have HBO2 := hide (own_old HBO.out HO2.out)
         have HDS := hide (fun n (h : hexV? b = some n) => dI_val h)
         have HDN := hide (fun (h : hexV? b = none) => dI_none h)
         cases hv : hexV? b with
         | none =>
           have hd := HDN.out hv
           obtain rfl := HBK.out hv
           rw [hd]
           clear HDS HDN HBK hd hv
           go_wp2_with fail
           go_ret2
           exact ⟨rfl, O2.out⟩
         | some n =>
           have hn16 : n < 16 := (hexV_inv hv).1
           have HKN := hide (show ∀ i, i < k + 1 → (hexV? (s.get! i)).isSome = true from fun i hi => by
            rcases Nat.lt_or_ge i k with h | h
            · exact HK.out i h
            · obtain rfl : i = k := by omega
              rw [hb.out, hv]; rfl)
           have HNV := hide (nib_val hv)
           rw [HDS.out n hv]
           have hni : ¬ (n : Int) < 0 := by omega
           have HTL := hide (take_len s hk)
           clear HDS HDN HBK hv
           by_cases hev : k % 2 = 0
           · have hki : ((k : Int).tmod 2 == 0) = true := by
              have : (k : Int).tmod 2 = ((k % 2 : Nat) : Int) := rfl
              rw [this, hev]
              rfl
             have HON := hide (outE_one (l := s.data.toList.take k) b (by rw [HTL.out]; exact hev))
             rw [HNV.out, ← HN.out] at HON
             have hcv : IntKind.u8.wrap (16 * (n : Int)) = ((n * 16).toUInt8.toNat : Int) := by
              simp [IntKind.wrap, IntKind.bits, IntKind.signed, Nat.toUInt8]
              omega
             have hlen : (outE (s.data.toList.take k)).length + 1 ≤ 140737488355328 := by rw [outE_len, HTL.out]; omega
             clear HNV
             go_wp2_with (at_builtin; refine wpList_plain rfl (fun K hK => ?_); refine push_bys _ _ _ rfl w.heap.size _ (outE (s.data.toList.take k)) rfl (own_old HBO2.out (Old.alloc (Old.refl _) _)) _ [(n * 16).toUInt8] rfl (bys_lit _ [(n * 16).toUInt8] _ rfl (by simp)) hlen (O2.out.alloc _).size ?_; intro v7 w7 own7 kept7; refine hK _ _ ?_; clear hK)
             have OW7 := hide (show BysOwn w.heap.size w7 v7 (outE (s.data.toList.take (k + 1))) by rw [HON.out]; exact own7)
             have O7 := hide (Below.trans (O2.out.alloc _) kept7)
             clear own7 kept7
             go_roundw
             case rel => exact ⟨k + 1, by go_num, by omega, hide (fun h => by omega), OW7, HKN, O7⟩
             case measure => simp [intOf]; omega
           · have hki : ((k : Int) % 2 == 0) = false := by simp; omega
             obtain ⟨x, hx, g1, g2⟩ := outE_two (l := s.data.toList.take k) b (by rw [HTL.out]; omega)
             rw [HTL.out] at g1 g2
             rw [HNV.out, ← HN.out] at g2
             have G2 := hide g2
             have G1 := hide g1
             obtain ⟨m, hm⟩ : ∃ m, Hid (k / 2 = m) := ⟨_, hide rfl⟩
             rw [hm.out] at g1 g2
             have HBO3 := HBO2.out
             have hL : (outE (s.data.toList.take k)).length = (k + 1) / 2 := by rw [outE_len, HTL.out]
             have hmL : m < (outE (s.data.toList.take k)).length := (List.getElem?_eq_some_iff.1 g1).1
             obtain ⟨E, hE⟩ : ∃ E, Hid (outE (s.data.toList.take k) = E) := ⟨_, hide rfl⟩
             rw [hE.out] at HBO3 g1 g2 hL hmL
             obtain ⟨g, cap, rfl, q1, q2, q3, q4, q5, q6⟩ := own_set HBO3 (by omega)
             have G3 := hide g2
             have G6 := hide (q6 m (.int .u8 ((x * 16 + n).toUInt8.toNat : Int)))
             have hc0 := q4 m (.int .u8 (((x * 16).toUInt8.toNat : Nat) : Int)) (by simp [Lib.byteCells, g1])
             have hf0 := q5 m
             have hd : (k : Int) / 2 = (m : Int) := by have := hm.out; omega
             obtain ⟨y, hy⟩ : ∃ y : Nat, Hid ((x * 16).toUInt8.toNat = y) := ⟨_, hide rfl⟩
             obtain ⟨z, hz⟩ : ∃ z : Nat, Hid ((x * 16 + n).toUInt8.toNat = z) := ⟨_, hide rfl⟩
             have hyv : y = x * 16 := by rw [← hy.out]; simp [Nat.toUInt8]; omega
             have hzv : z = x * 16 + n := by rw [← hz.out]; simp [Nat.toUInt8]; omega
             have hw1 : IntKind.u8.wrap (n : Int) = (n : Int) := by simp [IntKind.wrap, IntKind.bits, IntKind.signed]; omega
             have hw2 : IntKind.u8.wrap ((y : Int) + (n : Int)) = (z : Int) := by simp [IntKind.wrap, IntKind.bits, IntKind.signed]; omega
             have HG := hide q3
             obtain ⟨L, hLL⟩ : ∃ L, Hid (E.length = L) := ⟨_, hide rfl⟩
             rw [hLL.out] at hmL q1 ⊢
             rw [hy.out] at hc0
             rw [hz.out] at G6
             have hmi : (m : Int) < (L : Int) := by omega
             clear g1 g2 q3 q4 q5 q6 HBO3 hyv hzv hL hx
             go_wp2_with fail
             go_roundw
             case rel => exact ⟨k + 1, by go_num, by omega, hide (fun h => by omega), hide (by
              rw [G3.out]
              unfold BysOwn
              rw [List.length_set]
              have e : Lib.byteCells (E.set m (x * 16 + n).toUInt8) = (Lib.byteCells E).set m (.int .u8 (z : Int)) := by
               rw [← hz.out]
               simp [Lib.byteCells, List.map_set]
              rw [e, hLL.out]
              have := G6.out
              rw [hLL.out] at this
              exact this), HKN, hide (Old.setCell O2.out HG.out _)⟩
             case measure => simp [intOf]; omega
    · have hli : ¬ (k : Int) < (s.size : Int) := by omega
      obtain rfl : k = s.size := by omega
      obtain rfl := HS2.out HK.out
      have hcv := conv_bys HBO.out (fun h => HZ.out (by
       have := congrArg List.length h
       rw [outE_len, take_len s hk] at this
       simp at this
       omega))
      rw [List.take_of_length_le (by rw [Array.length_toList]; exact Nat.le_refl _)] at hcv
      clear HZ HBO HK HS2 HB
      go_wp2_with fail
      go_ret2
      exact ⟨rfl, HO.out⟩
 · have hpi : ((s.size : Int) % 2 != 0) = true := by simp; omega
   obtain rfl := HOD.out hpar
   clear HS HB HOD hpar
   go_enter Tryz.func96, Tryz.ntmps96
   go_wp2_with fail
   go_ret2
   exact ⟨rfl, Old.refl _⟩
end Go.Proofs.YthlfljmfggmfdaaGreatDoor

/-! ###  -/
namespace Go.Proofs.YthlfljmfggmfdaaGreatDoor
open Go.RowKit
def updV (val : Nat → Value) (i : Nat) (v : Value) : Nat → Value := fun j => if j = i then v else val j
theorem updV_same (val : Nat → Value) (i : Nat) (v : Value) : updV val i v i = v := if_pos rfl
theorem updV_other {val : Nat → Value} {i j : Nat} {v : Value} (h : j ≠ i) : updV val i v j = val j := if_neg h
def unl (n : Nat) (listed : Array Bool) : Nat := ((List.range n).filter fun i => !listed.getD i true).length
theorem getD_set (listed : Array Bool) (i j : Nat) (d : Bool) (hi : i < listed.size) : (listed.setIfInBounds i true).getD j d = if j = i then true else listed.getD j d := by
 by_cases h : j = i
 · subst h
   rw [if_pos rfl]
   simp [Array.getD, hi]
 · rw [if_neg h]
   simp only [Array.getD, Array.size_setIfInBounds]
   split
   · rename_i hj
     exact Array.getElem_setIfInBounds_ne hj (fun e => h e.symm)
   · rfl
theorem unl_set {n i : Nat} {listed : Array Bool} (hs : listed.size = n) (hi : i < n) (h : listed.getD i true = false) : unl n (listed.setIfInBounds i true) < unl n listed := by
 unfold unl
 have e : ((List.range n).filter fun k => !(listed.setIfInBounds i true).getD k true) = (((List.range n).filter fun k => !listed.getD k true).filter fun k => decide (k ≠ i)) := by
  rw [List.filter_filter]
  apply List.filter_congr
  intro k _
  rw [getD_set listed i k true (by omega)]
  by_cases hk : k = i
  · simp [hk]
  · simp [hk]
 rw [e]
 apply List.length_filter_lt_length_iff_exists.2
 exact ⟨i, List.mem_filter.2 ⟨List.mem_range.2 hi, by rw [h]; rfl⟩, by simp⟩
theorem unl_zero {n : Nat} {listed : Array Bool} (h : unl n listed = 0) : ∀ i, i < n → listed.getD i true = true := by
 intro i hi
 unfold unl at h
 have := List.filter_eq_nil_iff.1 (List.eq_nil_of_length_eq_zero h) i (List.mem_range.2 hi)
 simpa using this
def backB (ops : Array Oper) : Bool := (List.range ops.size).all fun i => match ops[i]? with
 | some o => o.guard.isNone && o.after.all fun e => !Region.binds .any e || decide (e.on < i)
 | none => true
section
variable {P : Program} {ops : Array Oper} {Q : Exit → Act → World → Prop}
theorem ready_none (hb : backB ops = true) {listed : Array Bool} (hs : listed.size = ops.size) (hr : Region.ready .any ops listed = []) : ∀ i, i < ops.size → listed.getD i true = true := by
 intro i
 induction i using Nat.strongRecOn with
 | _ i ih =>
   intro hi
   cases hl : listed.getD i true
   · exfalso
     have hx := List.all_eq_true.1 hb i (List.mem_range.2 hi)
     rw [Array.getElem?_eq_getElem hi] at hx
     simp only [Bool.and_eq_true, Array.all_eq_true_iff_forall_mem, Bool.or_eq_true, Bool.not_eq_true', decide_eq_true_eq] at hx
     have := List.filter_eq_nil_iff.1 hr i (List.mem_range.2 hi)
     apply this
     rw [hl, Array.getElem?_eq_getElem hi]
     simp only [Option.map_some, Option.getD_some, Bool.not_false, Bool.true_and, Array.all_eq_true_iff_forall_mem]
     intro e he
     rcases hx.2 e he with hnb | h1
     · simp [hnb]
     have h2 := ih e.on h1 (by omega)
     have h3 : listed.getD e.on false = true := by
      have hb : e.on < listed.size := by omega
      simp only [Array.getD, hb, dif_pos] at h2 ⊢
      exact h2
     simp [h3]
   · rfl
def waits (o : Oper) (p : Nat → Prop) : Prop := ∀ e ∈ o.after, Region.binds .any e = true → p e.on
theorem dag_go (lit : (Nat → Value) → Act) (Good : Nat → Value → World → Prop) (w0 : World) (hb : backB ops = true)
 (hput : ∀ val i o v, ops[i]? = some o → (lit val).put o.dst v = lit (updV val i v))
 (hmono : ∀ i v w w', Old w w' → Good i v w → Good i v w')
 (hstep : ∀ i o, ops[i]? = some o → ∀ val w, Old w0 w → waits o (fun j => Good j (val j) w) → ∀ K : Act → World → Prop, (∀ v w', Old w w' → Good i v w' → K ((lit val).put o.dst v) w') → o.wp P (lit val) w K Q)
 (hend : ∀ val w, Old w0 w → (∀ i, i < ops.size → Good i (val i) w) → Q .normal (lit val) w) :
 ∀ (fuel : Nat) (listed : Array Bool) (val : Nat → Value) (w : World), listed.size = ops.size → unl ops.size listed ≤ fuel → Old w0 w → (∀ i, i < ops.size → listed.getD i true = true → Good i (val i) w) →
  wpAny P .any ops Q fuel listed (lit val) w := by
 intro fuel
 induction fuel with
 | zero =>
   intro listed val w hs hu ho hg
   have hall := unl_zero (Nat.le_zero.1 hu)
   refine ⟨?_, hend val w ho (fun i hi => hg i hi (hall i hi))⟩
   apply List.filter_eq_nil_iff.2
   intro i hi
   rw [hall i (List.mem_range.1 hi)]
   simp
 | succ fuel ih =>
   intro listed val w hs hu ho hg
   refine ⟨fun hr => hend val w ho (fun i hi => hg i hi (ready_none hb hs hr i hi)), fun i hi => ?_⟩
   obtain ⟨hi1, hi2⟩ := List.mem_filter.1 hi
   have hin := List.mem_range.1 hi1
   have hio : ops[i]? = some ops[i] := Array.getElem?_eq_getElem hin
   rw [hio] at hi2
   simp only [Bool.and_eq_true, Bool.not_eq_true', Option.map_some, Option.getD_some, Array.all_eq_true_iff_forall_mem] at hi2
   obtain ⟨hun, hdep⟩ := hi2
   have hx := List.all_eq_true.1 hb i hi1
   rw [hio] at hx
   simp only [Bool.and_eq_true, Array.all_eq_true_iff_forall_mem, Bool.or_eq_true, Bool.not_eq_true', decide_eq_true_eq] at hx
   have hguard : ops[i].guard = none := Option.isNone_iff_eq_none.1 hx.1
   unfold wpOp
   rw [hio]
   show if Region.wanted ops[i] (yielded ops (lit val).tmps) = true then _ else _
   rw [if_pos (by simp [Region.wanted, hguard])]
   refine .inl (hstep i ops[i] hio val w ho (fun e he hbd => ?_) _ (fun v w' ho' hgood => ?_))
   · have h1 := hdep e he
     rw [hbd] at h1
     have h2 : e.on < i := by
      rcases hx.2 e he with h | h
      · rw [hbd] at h; cases h
      · exact h
     have h3 : e.on < listed.size := by omega
     refine hg e.on (by omega) ?_
     simp only [Array.getD, h3, dif_pos] at h1 ⊢
     simpa using h1
   · rw [hput val i ops[i] v hio]
     refine ih _ _ _ (by simpa using hs) (by have := unl_set hs hin hun; omega) (ho.trans ho') (fun j hj hl => ?_)
     rw [getD_set _ _ _ _ (by omega)] at hl
     by_cases hji : j = i
     · subst hji
       rw [updV_same]
       exact hgood
     · rw [if_neg hji] at hl
       rw [updV_other hji]
       exact hmono _ _ _ _ ho' (hg j hj hl)
theorem region_dag {id : Nat} {a0 : Act} {w0 : World} (lit : (Nat → Value) → Act) (val0 : Nat → Value) (Good : Nat → Value → World → Prop) (hm : P.follows .mixedOrders = true) (hb : backB ops = true) (h0 : lit val0 = a0)
 (hput : ∀ val i o v, ops[i]? = some o → (lit val).put o.dst v = lit (updV val i v))
 (hmono : ∀ i v w w', Old w w' → Good i v w → Good i v w')
 (hstep : ∀ i o, ops[i]? = some o → ∀ val w, Old w0 w → waits o (fun j => Good j (val j) w) → ∀ K : Act → World → Prop, (∀ v w', Old w w' → Good i v w' → K ((lit val).put o.dst v) w') → o.wp P (lit val) w K Q)
 (hend : ∀ val w, Old w0 w → (∀ i, i < ops.size → Good i (val i) w) → Q .normal (lit val) w) : (Code.region id ops true).wp P Q a0 w0 := by
 refine wp_region_any hm ?_
 rw [← h0]
 refine dag_go lit Good w0 hb hput hmono hstep hend _ _ _ _ (by simp) ?_ ((Old.refl w0).drew) (fun i hi hl => ?_)
 · unfold unl
   have := List.length_filter_le (fun i => !(Array.replicate ops.size false).getD i true) (List.range ops.size)
   simpa using this
 · simp [hi] at hl
def allFrom (p : Nat → Oper → Prop) : Nat → List Oper → Prop
 | _, [] => True
 | k, o :: l => p k o ∧ allFrom p (k + 1) l
theorem allFrom_at {p : Nat → Oper → Prop} : ∀ {l : List Oper} {k : Nat}, allFrom p k l → ∀ i o, l[i]? = some o → p (k + i) o
 | [], _, _, i, o, h => by simp at h
 | x :: l, k, h, 0, o, ho => by
   simp at ho
   subst ho
   exact h.1
 | x :: l, k, h, i + 1, o, ho => by
   have := allFrom_at h.2 i o (by simpa using ho)
   rw [show k + (i + 1) = k + 1 + i by omega]
   exact this
theorem region_dag_l {l : List Oper} {id : Nat} {a0 : Act} {w0 : World} (lit : (Nat → Value) → Act) (val0 : Nat → Value) (Good : Nat → Value → World → Prop) (hm : P.follows .mixedOrders = true) (hb : backB l.toArray = true) (h0 : lit val0 = a0)
 (hput : allFrom (fun i o => ∀ val v, (lit val).put o.dst v = lit (updV val i v)) 0 l)
 (hmono : ∀ i v w w', Old w w' → Good i v w → Good i v w')
 (hstep : allFrom (fun i o => ∀ val w, Old w0 w → waits o (fun j => Good j (val j) w) → ∀ K : Act → World → Prop, (∀ v w', Old w w' → Good i v w' → K ((lit val).put o.dst v) w') → o.wp P (lit val) w K Q) 0 l)
 (hend : ∀ val w, Old w0 w → (∀ i, i < l.length → Good i (val i) w) → Q .normal (lit val) w) : (Code.region id l.toArray true).wp P Q a0 w0 :=
 region_dag lit val0 Good hm hb h0
  (fun val i o v ho => by have := allFrom_at hput i o (by simpa using ho); rw [Nat.zero_add] at this; exact this val v)
  hmono
  (fun i o ho => by have := allFrom_at hstep i o (by simpa using ho); rw [Nat.zero_add] at this; exact this)
  (fun val w ho hg => hend val w ho (fun i hi => hg i (by simpa using hi)))
theorem wp_value {o : Oper} {a : Act} {w w' : World} {v : Value} {K : Act → World → Prop} (h : (execOp a.eval o).run P w = .ok (.value v) w') (hk : K (a.put o.dst v) w') : o.wp P a w K Q := by
 unfold Oper.wp
 rw [h]
 exact hk
theorem wp_enter {o : Oper} {a : Act} {w w' : World} {f : FuncId} {args : Array Value} {K : Act → World → Prop} (h : (execOp a.eval o).run P w = .ok (.enter f args) w') (hc : Calls P f args w' fun e w'' => ∃ v, e = .returned v ∧ K (a.put o.dst v) w'') : o.wp P a w K Q := by
 unfold Oper.wp
 rw [h]
 exact hc.mono fun e w'' ⟨v, he, hk⟩ => by subst he; exact hk
end
end Go.Proofs.YthlfljmfggmfdaaGreatDoor

/-! ###  -/
namespace Go.Proofs.YthlfljmfggmfdaaGreatDoor
open Go.RowKit
def coverB (ops : Array Oper) : Bool := (List.range (ops.size - 1)).all fun i => (List.range ops.size).any fun j => decide (i < j) && match ops[j]? with
 | some o => o.after.any fun e => Region.binds .any e && decide (e.on = i)
 | none => false
def Closed (ops : Array Oper) (listed : Array Bool) : Prop := ∀ i o, ops[i]? = some o → listed.getD i true = true → ∀ e ∈ o.after, Region.binds .any e = true → listed.getD e.on true = true
section
variable {P : Program} {ops : Array Oper} {Q : Exit → Act → World → Prop}
theorem cover_at (hc : coverB ops = true) {i : Nat} (hi : i + 1 < ops.size) : ∃ j o, i < j ∧ ops[j]? = some o ∧ ∃ e ∈ o.after, Region.binds .any e = true ∧ e.on = i := by
 have h := List.all_eq_true.1 hc i (List.mem_range.2 (by omega))
 obtain ⟨j, _, h2⟩ := List.any_eq_true.1 h
 simp only [Bool.and_eq_true, decide_eq_true_eq] at h2
 obtain ⟨h3, h4⟩ := h2
 cases ho : ops[j]? with
 | none => rw [ho] at h4; cases h4
 | some o =>
   rw [ho] at h4
   rw [Array.any_eq_true] at h4
   obtain ⟨k, hk, h5⟩ := h4
   simp only [Bool.and_eq_true, decide_eq_true_eq] at h5
   exact ⟨j, o, h3, ho, o.after[k], Array.getElem_mem hk, h5.1, h5.2⟩
theorem cover_all (hc : coverB ops = true) {listed : Array Bool} (hcl : Closed ops listed) {o : Oper} (ho : ops[ops.size - 1]? = some o) (hr : ∀ e ∈ o.after, Region.binds .any e = true → listed.getD e.on true = true) :
 ∀ k i, i + 1 + k = ops.size - 1 + 0 → listed.getD i true = true := by
 intro k
 induction k using Nat.strongRecOn with
 | _ k ih =>
   intro i hi
   obtain ⟨j, o', hj, hjo, e, he, hb, hon⟩ := cover_at hc (i := i) (by omega)
   have hjs : j < ops.size := (Array.getElem?_eq_some_iff.1 hjo).1
   by_cases hl : j = ops.size - 1
   · subst hl
     rw [ho] at hjo
     injection hjo with hjo
     subst hjo
     have := hr e he hb
     rwa [hon] at this
   · have h1 := ih (ops.size - 1 - (j + 1)) (by omega) j (by omega)
     have := hcl j o' hjo h1 e he hb
     rwa [hon] at this
theorem dag_last_go (lit : (Nat → Value) → Act) (Good : Nat → Value → World → Prop) (w0 : World) (hb : backB ops = true) (hc : coverB ops = true) (hn : 0 < ops.size)
 (hput : ∀ val i o v, ops[i]? = some o → i + 1 < ops.size → (lit val).put o.dst v = lit (updV val i v))
 (hmono : ∀ i v w w', Old w w' → Good i v w → Good i v w')
 (hstep : ∀ i o, ops[i]? = some o → i + 1 < ops.size → ∀ val w, Old w0 w → waits o (fun j => Good j (val j) w) → ∀ K : Act → World → Prop, (∀ v w', Old w w' → Good i v w' → K ((lit val).put o.dst v) w') → o.wp P (lit val) w K Q)
 (hlast : ∀ o, ops[ops.size - 1]? = some o → ∀ val w, Old w0 w → (∀ i, i + 1 < ops.size → Good i (val i) w) → ∀ K : Act → World → Prop, (∀ a' w', Q .normal a' w' → K a' w') → o.wp P (lit val) w K Q) :
 ∀ (fuel : Nat) (listed : Array Bool) (val : Nat → Value) (w : World), listed.size = ops.size → unl ops.size listed ≤ fuel → Old w0 w → Closed ops listed → listed.getD (ops.size - 1) true = false → (∀ i, i + 1 < ops.size → listed.getD i true = true → Good i (val i) w) →
  wpAny P .any ops Q fuel listed (lit val) w := by
 intro fuel
 induction fuel with
 | zero =>
   intro listed val w hs hu ho hcl hz hg
   have hall := unl_zero (Nat.le_zero.1 hu) (ops.size - 1) (by omega)
   rw [hz] at hall
   cases hall
 | succ fuel ih =>
   intro listed val w hs hu ho hcl hz hg
   refine ⟨fun hr => ?_, fun i hi => ?_⟩
   · have := ready_none hb hs hr (ops.size - 1) (by omega)
     rw [hz] at this
     cases this
   · obtain ⟨hi1, hi2⟩ := List.mem_filter.1 hi
     have hin := List.mem_range.1 hi1
     have hio : ops[i]? = some ops[i] := Array.getElem?_eq_getElem hin
     rw [hio] at hi2
     simp only [Bool.and_eq_true, Bool.not_eq_true', Option.map_some, Option.getD_some, Array.all_eq_true_iff_forall_mem] at hi2
     obtain ⟨hun, hdep⟩ := hi2
     have hx := List.all_eq_true.1 hb i hi1
     rw [hio] at hx
     simp only [Bool.and_eq_true, Array.all_eq_true_iff_forall_mem, Bool.or_eq_true, Bool.not_eq_true', decide_eq_true_eq] at hx
     have hguard : ops[i].guard = none := Option.isNone_iff_eq_none.1 hx.1
     have hdl : ∀ e ∈ ops[i].after, Region.binds .any e = true → listed.getD e.on true = true := by
      intro e he hbd
      have h1 := hdep e he
      rw [hbd] at h1
      have h2 : e.on < i := by
       rcases hx.2 e he with h | h
       · rw [hbd] at h; cases h
       · exact h
      have h3 : e.on < listed.size := by omega
      simp only [Array.getD, h3, dif_pos] at h1 ⊢
      simpa using h1
     unfold wpOp
     rw [hio]
     show if Region.wanted ops[i] (yielded ops (lit val).tmps) = true then _ else _
     rw [if_pos (by simp [Region.wanted, hguard])]
     by_cases hlst : i + 1 < ops.size
     · refine .inl (hstep i ops[i] hio hlst val w ho (fun e he hbd => ?_) _ (fun v w' ho' hgood => ?_))
       · have h2 : e.on < i := by
          rcases hx.2 e he with h | h
          · rw [hbd] at h; cases h
          · exact h
         exact hg e.on (by omega) (hdl e he hbd)
       · rw [hput val i ops[i] v hio hlst]
         refine ih _ _ _ (by simpa using hs) (by have := unl_set hs hin hun; omega) (ho.trans ho') (fun j o' hjo hl e he hbd => ?_) ?_ (fun j hj hl => ?_)
         · have hjs : j < ops.size := (Array.getElem?_eq_some_iff.1 hjo).1
           rw [getD_set _ _ _ _ (by omega)] at hl
           rw [getD_set _ _ _ _ (by omega)]
           by_cases hei : e.on = i
           · rw [if_pos hei]
           · rw [if_neg hei]
             by_cases hji : j = i
             · subst hji
               rw [hio] at hjo
               injection hjo with hjo
               subst hjo
               exact hdl e he hbd
             · rw [if_neg hji] at hl
               exact hcl j o' hjo hl e he hbd
         · rw [getD_set _ _ _ _ (by omega), if_neg (by omega)]
           exact hz
         · rw [getD_set _ _ _ _ (by omega)] at hl
           by_cases hji : j = i
           · subst hji
             rw [updV_same]
             exact hgood
           · rw [if_neg hji] at hl
             rw [updV_other hji]
             exact hmono _ _ _ _ ho' (hg j hj hl)
     · obtain rfl : i = ops.size - 1 := by omega
       have hall : ∀ j, j + 1 < ops.size → listed.getD j true = true := fun j hj => cover_all hc hcl hio hdl (ops.size - 1 - (j + 1)) j (by omega)
       refine .inl (hlast ops[ops.size - 1] hio val w ho (fun j hj => hg j hj (hall j hj)) _ (fun a' w' hq => ?_))
       have hdone : ∀ j, j < ops.size → (listed.setIfInBounds (ops.size - 1) true).getD j true = true := by
        intro j hj
        rw [getD_set _ _ _ _ (by omega)]
        by_cases hje : j = ops.size - 1
        · rw [if_pos hje]
        · rw [if_neg hje]
          exact hall j (by omega)
       have hnone : Region.ready .any ops (listed.setIfInBounds (ops.size - 1) true) = [] := by
        apply List.filter_eq_nil_iff.2
        intro j hj
        rw [hdone j (List.mem_range.1 hj)]
        simp
       cases fuel with
       | zero => exact ⟨hnone, hq⟩
       | succ fuel =>
         refine ⟨fun _ => hq, fun j hj => ?_⟩
         rw [hnone] at hj
         cases hj
theorem region_dag_last {l : List Oper} {id : Nat} {a0 : Act} {w0 : World} (lit : (Nat → Value) → Act) (val0 : Nat → Value) (Good : Nat → Value → World → Prop) (hm : P.follows .mixedOrders = true) (hb : backB l.toArray = true) (hc : coverB l.toArray = true) (hn : 0 < l.length) (h0 : lit val0 = a0)
 (hput : allFrom (fun i o => i + 1 < l.length → ∀ val v, (lit val).put o.dst v = lit (updV val i v)) 0 l)
 (hmono : ∀ i v w w', Old w w' → Good i v w → Good i v w')
 (hstep : allFrom (fun i o => i + 1 < l.length → ∀ val w, Old w0 w → waits o (fun j => Good j (val j) w) → ∀ K : Act → World → Prop, (∀ v w', Old w w' → Good i v w' → K ((lit val).put o.dst v) w') → o.wp P (lit val) w K Q) 0 l)
 (hlast : ∀ o, l[l.length - 1]? = some o → ∀ val w, Old w0 w → (∀ i, i + 1 < l.length → Good i (val i) w) → ∀ K : Act → World → Prop, (∀ a' w', Q .normal a' w' → K a' w') → o.wp P (lit val) w K Q) : (Code.region id l.toArray true).wp P Q a0 w0 := by
 refine wp_region_any hm ?_
 rw [← h0]
 refine dag_last_go (ops := l.toArray) lit Good w0 hb hc (by simpa using hn)
  (fun val i o v ho hi => by have := allFrom_at hput i o (by simpa using ho); rw [Nat.zero_add] at this; exact this (by simpa using hi) val v)
  hmono
  (fun i o ho hi => by have := allFrom_at hstep i o (by simpa using ho); rw [Nat.zero_add] at this; exact this (by simpa using hi))
  (fun o ho val w ho' hg => hlast o (by simpa using ho) val w ho' (fun i hi => hg i (by simpa using hi)))
  _ _ _ _ (by simp) ?_ ((Old.refl w0).drew) (fun i o hio hl => ?_) ?_ (fun i hi hl => ?_)
 · unfold unl
   have := List.length_filter_le (fun i => !(Array.replicate l.toArray.size false).getD i true) (List.range l.toArray.size)
   simpa using this
 · have hi : i < l.length := by simpa using (Array.getElem?_eq_some_iff.1 hio).1
   simp [hi] at hl
 · have : l.length - 1 < l.length := by omega
   simp [this]
 · have : i < l.length := by simpa using (show i < l.toArray.size by omega)
   simp [this] at hl
end
end Go.Proofs.YthlfljmfggmfdaaGreatDoor
