/-  -/
import Derived.Test.YthlfljmfggmfdaaGreatDoorQk15
import Derived.Test.YthlfljmfggmfdaaGreatDoorQk19
import Derived.Lib.ValidLaws
import Derived.Test.YthlfljmfggmfdaaGreatDoorQk11
import Derived.Test.YthlfljmfggmfdaaGreatDoorQk07
import Derived.Test.YthlfljmfggmfdaaGreatDoorQk16
import Derived.Laws.ResultCell
/-! ###  -/
namespace Go.Proofs.YthlfljmfggmfdaaGreatDoor
open Go.RowKit
theorem hexD_low {n : Nat} (h : n < 16) : (hexD n).toNat < 128 := by
 have key : ∀ k : _root_.Fin 16, (hexD k.val).toNat < 128 := by decide +kernel
 exact key ⟨n, h⟩
theorem hexL_low : ∀ (l : List UInt8), ∀ b ∈ hexL l, b.toNat < 128
 | [], b, h => by simp [hexL] at h
 | x :: l, b, h => by
   have hx := x.toNat_lt
   simp only [hexL, List.mem_cons] at h
   rcases h with rfl | rfl | h
   · exact hexD_low (by omega)
   · exact hexD_low (by omega)
   · exact hexL_low l b h
theorem vU_hex (s : ByteArray) : vU (hexOf s) = true := by
 show Lib.validD (hexL s.data.toList) = true
 rw [Lib.validD_ascii (hexL s.data.toList).length _ (fun b hb => hexL_low _ b (List.mem_of_mem_take hb)), List.drop_length]
 rfl
theorem str_ok (s : ByteArray) (w : World) (hv : vU s = true) (hs : s.size ≤ 9223372036854775807) (hT : Tabs w) : Calls Tryz.prog 28 #[.string s] w (NewNodes w (leafT 5 0 s)) := by
 have h := str_run s w hs hT
 unfold strT at h
 rw [if_pos hv] at h
 exact h
abbrev Pa (k : Int) (nl : Bool) (c : Cell) : Value := .agg #[.int .i64 k, .bool nl, .bool c.null, .int .i64 c.n, .string c.s]
theorem pbool_run (k : Int) (nl cn : Bool) (n : Int) (s : ByteArray) (w : World) : Calls Tryz.prog 80 #[Pa k nl ⟨cn, n, s⟩] w (NewNodes w (leafT (if n = 1 then 3 else 2) 0 none_)) := by
 by_cases h0 : n = 1
 · subst h0
   rw [if_pos rfl]
   have CL := hide (fun w' => (show Calls Tryz.prog 113 #[.bool true] w' (NewNodes w' (leafT 3 0 none_)) from bool_run true w'))
   unfold Pa
   go_enter Tryz.func80, Tryz.ntmps80
   go_wp2_with fail
   refine (CL.out _).mono ?_
   rintro e w2 ⟨v, rfl, h1, h2⟩
   have O2 := hide (Old.trans (Old.alloc (Old.refl w) _) h2)
   have H1 := hide (h1.mono (Old.alloc (Old.refl w) _).size)
   clear h1 h2
   go_wp2_with fail
   go_ret
   exact ⟨_, rfl, H1.out, O2.out⟩
 · rw [if_neg h0]
   have hb : (n == 1) = false := by simp [h0]
   have CL := hide (fun w' => (show Calls Tryz.prog 113 #[.bool false] w' (NewNodes w' (leafT 2 0 none_)) from bool_run false w'))
   unfold Pa
   go_enter Tryz.func80, Tryz.ntmps80
   go_wp2_with fail
   refine (CL.out _).mono ?_
   rintro e w2 ⟨v, rfl, h1, h2⟩
   have O2 := hide (Old.trans (Old.alloc (Old.refl w) _) h2)
   have H1 := hide (h1.mono (Old.alloc (Old.refl w) _).size)
   clear h1 h2
   go_wp2_with fail
   go_ret
   exact ⟨_, rfl, H1.out, O2.out⟩
theorem pwhole_run (k : Int) (nl cn : Bool) (n : Int) (s : ByteArray) (w : World) : Calls Tryz.prog 81 #[Pa k nl ⟨cn, n, s⟩] w (NewNodes w (leafT 4 n none_)) := by
 have CL := hide (fun w' => num_run n w')
 unfold Pa
 go_enter Tryz.func81, Tryz.ntmps81
 go_wp2_with fail
 refine (CL.out _).mono ?_
 rintro e w2 ⟨v, rfl, h1, h2⟩
 have O2 := hide (Old.trans (Old.alloc (Old.refl w) _) h2)
 have H1 := hide (h1.mono (Old.alloc (Old.refl w) _).size)
 clear h1 h2
 go_wp2_with fail
 go_ret
 exact ⟨_, rfl, H1.out, O2.out⟩
theorem ptext_run (k : Int) (nl cn : Bool) (n : Int) (s : ByteArray) (w : World) (hv : vU s = true) (hs : s.size ≤ 9223372036854775807) (hT : Tabs w) : Calls Tryz.prog 82 #[Pa k nl ⟨cn, n, s⟩] w (NewNodes w (leafT 5 0 s)) := by
 have CL := hide (str_ok s (w.alloc (.cells #[.int .i64 k, .bool nl, .bool cn, .int .i64 n, .string s] 75)) hv hs (hT.old (Old.alloc (Old.refl _) _)))
 unfold Pa
 go_enter Tryz.func82, Tryz.ntmps82
 go_wp2_with fail
 refine CL.out.mono ?_
 rintro e w2 ⟨v, rfl, h1, h2⟩
 have O2 := hide (Old.trans (Old.alloc (Old.refl w) _) h2)
 have H1 := hide (h1.mono (Old.alloc (Old.refl w) _).size)
 clear h1 h2
 go_wp2_with fail
 go_ret
 exact ⟨_, rfl, H1.out, O2.out⟩
theorem xhex_cut (s : ByteArray) : (xhex s).extract 1 (xhex s).size = hexOf s := by
 apply bytesD_ext
 simp [xhex, hexOf, ByteArray.size]
theorem xhex_size (s : ByteArray) : (xhex s).size = 2 * s.size + 1 := by
 simp only [xhex, ByteArray.size, List.size_toArray, List.length_cons, hexL_len]
 rw [Array.length_toList]
set_option maxRecDepth 100000 in
theorem pbytes_run (nl : Bool) (n : Int) (s : ByteArray) (w : World) (hz : szB ⟨false, n, s⟩ = true) (hT : Tabs w) : Calls Tryz.prog 83 #[Pa 5 nl ⟨false, n, s⟩] w (NewNodes w (leafT 5 0 (hexOf s))) := by
 have hsz : s.size ≤ 1024 := by simp [szB] at hz; omega
 have CT := hide (text5_run nl n s (w.alloc (.cells #[.int .i64 5, .bool nl, .bool false, .int .i64 n, .string s] 75)) (hT.old (Old.alloc (Old.refl _) _)))
 rw [hz] at CT
 have hx := xhex_size s
 have hxc := xhex_cut s
 have HT := hide hT
 obtain ⟨X, hX⟩ : ∃ X, xhex s = X := ⟨_, rfl⟩
 obtain ⟨Y, hY⟩ : ∃ Y, hexOf s = Y := ⟨_, rfl⟩
 have hvy : vU Y = true := by rw [← hY]; exact vU_hex s
 have hys : Y.size ≤ 9223372036854775807 := by rw [← hY]; simp only [hexOf, ByteArray.size, List.size_toArray, hexL_len]; rw [Array.length_toList]; show 2 * s.size ≤ _; omega
 have CS := hide (fun (w' : World) (o : Old w w') => str_ok Y w' hvy hys (HT.out.old o))
 rw [hX, hY] at hxc
 rw [hX] at hx
 rw [hx] at hxc
 rw [hY]
 simp only [if_true, hX] at CT
 have hxi : ¬ (X.size : Int) < 1 := by omega
 clear hT hz hY hX hvy
 unfold Ret at CT
 unfold Pa
 go_enter Tryz.func83, Tryz.ntmps83
 go_wp2_with fail
 refine CT.out.mono ?_
 rintro e w1 ⟨rfl, o1⟩
 have O1 := hide (Old.trans (Old.alloc (Old.refl w) _) o1)
 clear o1 CT
 go_wp2_with fail
 refine (CS.out _ O1.out).mono ?_
 rintro e w2 ⟨v, rfl, h1, h2⟩
 have O2 := hide (Old.trans O1.out h2)
 have H1 := hide (h1.mono O1.out.size)
 clear h1 h2
 go_wp2_with fail
 go_ret
 exact ⟨_, rfl, H1.out, O2.out⟩
end Go.Proofs.YthlfljmfggmfdaaGreatDoor

/-! ###  -/
namespace Go.Proofs.YthlfljmfggmfdaaGreatDoor
open Go.RowKit
set_option maxRecDepth 100000 in
set_option maxHeartbeats 2000000 in
theorem rname_run (s : ByteArray) (w : World) : Calls Tryz.prog 84 #[.string s] w (Ret (.bool (isName s)) w) := by
 unfold Ret
 have HI := hide (isName_iff s)
 obtain ⟨B, hB⟩ : ∃ B, isName s = B := ⟨_, rfl⟩
 rw [hB] at HI ⊢
 clear hB
 by_cases h1 : s.size < 1
 · have h1i : (s.size : Int) < 1 := by omega
   obtain rfl : B = false := by cases B; rfl; have := (HI.out.1 rfl).1; omega
   go_enter Tryz.func84, Tryz.ntmps84
   go_wp2_with fail
   go_ret
   exact ⟨rfl, Old.refl _⟩
 by_cases h2 : 32 < s.size
 · have h1i : ¬ (s.size : Int) < 1 := by omega
   have h2i : (32 : Int) < (s.size : Int) := by omega
   obtain rfl : B = false := by cases B; rfl; have := (HI.out.1 rfl).2.1; omega
   go_enter Tryz.func84, Tryz.ntmps84
   go_wp2_with fail
   go_ret
   exact ⟨rfl, Old.refl _⟩
 have h1i : ¬ (s.size : Int) < 1 := by omega
 have h2i : ¬ (32 : Int) < (s.size : Int) := by omega
 go_enter Tryz.func84, Tryz.ntmps84
 go_wp2_with fail
 go_loopw [3] (fun iv wr => ∃ k : Nat, iv = .int .i64 k ∧ k ≤ s.size ∧ Hid (∀ i, i < k → okAt s i) ∧ Hid (Old w wr)) (fun iv _ => s.size - (intOf iv).toNat)
 case atStart => exact ⟨0, rfl, Nat.zero_le _, hide (fun i h => by omega), hide (Old.refl _)⟩
 case round =>
  obtain ⟨k, rfl, hk, HK, HO⟩ := hrel
  by_cases hlt : k < s.size
  · have hli : (k : Int) < (s.size : Int) := by omega
    have gk := get_at s hlt
    obtain ⟨b, hb⟩ : ∃ b, Hid (s.get! k = b) := ⟨_, hide rfl⟩
    rw [hb.out] at gk
    obtain ⟨x, hx⟩ : ∃ x : Nat, x = b.toNat := ⟨_, rfl⟩
    have gx : ((s[k] : UInt8).toNat : Int) = (x : Int) := by rw [gk, hx]
    have BAD : Hid (¬ (letB b ∨ (0 < k ∧ moreB b)) → B = false) := hide (fun hn => by
     cases B
     · rfl
     · exact absurd ((HI.out.1 rfl).2.2 k hlt) (by unfold okAt; rw [hb.out]; exact hn))
    have GOOD : Hid (letB b ∨ (0 < k ∧ moreB b) → ∀ i, i < k + 1 → okAt s i) := hide (fun hy i hi => by
     rcases Nat.lt_or_ge i k with h | h
     · exact HK.out i h
     · obtain rfl : i = k := by omega
       unfold okAt
       rw [hb.out]
       exact hy)
    unfold letB moreB at BAD GOOD
    rw [← hx] at BAD GOOD
    rw [hx] at gx
    rw [gk] at gx
    clear gx
    have hbx : (b.toNat : Int) = (x : Int) := by rw [hx]
    by_cases c1 : x < 97
    · have c1i : ¬ (97 : Int) ≤ (x : Int) := by omega
      rcases Nat.eq_zero_or_pos k with rfl | hp
      · skip
        obtain rfl : B = false := BAD.out (by omega)
        clear BAD GOOD HK
        go_wp2_with fail
        go_ret
        exact ⟨rfl, HO.out⟩
      · have k0 : ((k : Int) == 0) = false := by simp; omega
        by_cases c2 : x < 48
        · have c2i : (x : Int) < 48 := by omega
          have n95 : ((x : Int) != 95) = true := by simp; omega
          obtain rfl : B = false := BAD.out (by omega)
          clear BAD GOOD HK
          go_wp2_with fail
          go_ret
          exact ⟨rfl, HO.out⟩
        · have c2i : ¬ (x : Int) < 48 := by omega
          by_cases c3 : x ≤ 57
          · have c3i : ¬ (57 : Int) < (x : Int) := by omega
            have n95 : ((x : Int) != 95) = true := by simp; omega
            have HN := hide (GOOD.out (by omega))
            clear BAD GOOD HK
            go_wp2_with fail
            go_roundw
            case rel => exact ⟨k + 1, by go_num, by omega, HN, HO⟩
            case measure => simp [intOf]; omega
          · have c3i : (57 : Int) < (x : Int) := by omega
            by_cases c4 : x = 95
            · have n95 : ((x : Int) != 95) = false := by simp; omega
              have HN := hide (GOOD.out (by omega))
              clear BAD GOOD HK
              go_wp2_with fail
              go_roundw
              case rel => exact ⟨k + 1, by go_num, by omega, HN, HO⟩
              case measure => simp [intOf]; omega
            · have n95 : ((x : Int) != 95) = true := by simp; omega
              obtain rfl : B = false := BAD.out (by omega)
              clear BAD GOOD HK
              go_wp2_with fail
              go_ret
              exact ⟨rfl, HO.out⟩
    · have c1i : (97 : Int) ≤ (x : Int) := by omega
      by_cases c2 : x ≤ 122
      · have c2i : (x : Int) ≤ 122 := by omega
        have HN := hide (GOOD.out (by omega))
        clear BAD GOOD HK
        go_wp2_with fail
        go_roundw
        case rel => exact ⟨k + 1, by go_num, by omega, HN, HO⟩
        case measure => simp [intOf]; omega
      · have c2i : ¬ (x : Int) ≤ 122 := by omega
        rcases Nat.eq_zero_or_pos k with rfl | hp
        · skip
          obtain rfl : B = false := BAD.out (by omega)
          clear BAD GOOD HK
          go_wp2_with fail
          go_ret
          exact ⟨rfl, HO.out⟩
        · have k0 : ((k : Int) == 0) = false := by simp; omega
          have n95 : ((x : Int) != 95) = true := by simp; omega
          have c3i : (57 : Int) < (x : Int) := by omega
          have c4i : ¬ (x : Int) < 48 := by omega
          obtain rfl : B = false := BAD.out (by omega)
          clear BAD GOOD HK
          go_wp2_with fail
          go_ret
          exact ⟨rfl, HO.out⟩
  · have hli : ¬ (k : Int) < (s.size : Int) := by omega
    obtain rfl : B = true := HI.out.2 ⟨by omega, by omega, fun i hi => HK.out i (by omega)⟩
    go_wp2_with fail
    go_ret
    exact ⟨rfl, HO.out⟩
end Go.Proofs.YthlfljmfggmfdaaGreatDoor

/-! ###  -/
namespace Go.Proofs.YthlfljmfggmfdaaGreatDoor
open Go.RowKit
theorem named_iff (cols : List Col) : namedB cols = true ↔ ∀ i, (hi : i < cols.length) → isName (cols[i]).name = true ∧ ∀ k, (hk : k < i) → (cols[k]).name ≠ (cols[i]).name := by
 unfold namedB
 rw [decide_eq_true_eq]
 unfold Named
 rw [List.Nodup, List.pairwise_iff_getElem]
 constructor
 · rintro ⟨h1, h2⟩ i hi
   refine ⟨h1 _ (List.getElem_mem hi), fun k hk => ?_⟩
   have := h2 k i (by simp; omega) (by simpa using hi) hk
   simpa using this
 · intro h
   refine ⟨fun c hc => ?_, fun k i hk hi hki => ?_⟩
   · obtain ⟨i, hi, rfl⟩ := List.mem_iff_getElem.1 hc
     exact (h i hi).1
   · have := (h i (by simpa using hi)).2 k hki
     simpa using this
theorem str_ne {a b : ByteArray} (h : a ≠ b) : (a.toList == b.toList) = false := by
 rw [beq_eq_false_iff_ne]
 intro e
 exact h (bytesD_ext (by rw [← ByteArray.toList_eq, ← ByteArray.toList_eq, e]))
set_option maxRecDepth 100000 in
set_option maxHeartbeats 2000000 in
theorem rnamed_run (v : Value) (cols : List Col) (w : World) (hc : ColsIs w v cols) : Calls Tryz.prog 39 #[v] w (Ret (.bool (namedB cols)) w) := by
 unfold Ret
 have HI := hide (named_iff cols)
 obtain ⟨B, hB⟩ : ∃ B, namedB cols = B := ⟨_, rfl⟩
 rw [hB] at HI ⊢
 clear hB
 obtain ⟨A, cap, rfl, hl, hm, hc⟩ := cols_form hc
 unfold maxLen at hm
 have HC := hide hc
 clear hc
 go_enter Tryz.func39, Tryz.ntmps39
 go_wp2_with fail
 go_loopw [3] (fun iv wr => ∃ i : Nat, iv = .int .i64 i ∧ i ≤ cols.length ∧ Hid (∀ j, j < i → (hj : j < cols.length) → isName (cols[j]).name = true ∧ ∀ k, (hk : k < j) → (cols[k]).name ≠ (cols[j]).name) ∧ Hid (Old w wr)) (fun iv _ => cols.length - (intOf iv).toNat)
 case atStart => exact ⟨0, rfl, Nat.zero_le _, hide (fun j h => by omega), hide (Old.refl _)⟩
 case round =>
  obtain ⟨i, rfl, hi, HK, HO⟩ := hrel
  by_cases hlt : i < cols.length
  · have hli : (i : Int) < (cols.length : Int) := by omega
    obtain ⟨b2, o2, rfl, hc2⟩ := HC.out.resolve_left (by omega)
    have x1 := ((hc2 i hlt).old HO.out).2.1
    obtain ⟨N, hN⟩ : ∃ N, Hid ((cols[i]).name = N) := ⟨_, hide rfl⟩
    rw [hN.out] at x1
    have CN := hide (fun w' => rname_run N w')
    unfold Ret at CN
    cases hz : isName N
    · rw [hz] at CN
      obtain rfl : B = false := by
       cases B
       · rfl
       · have := (HI.out.1 rfl i hlt).1
         rw [hN.out, hz] at this
         cases this
      go_wp2_with fail
      refine (CN.out _).mono ?_
      rintro e w1 ⟨rfl, o1⟩
      have O1 := hide (Old.trans HO.out o1)
      clear o1
      go_wp2_with fail
      go_ret
      exact ⟨rfl, O1.out⟩
    · rw [hz] at CN
      go_wp2_with fail
      refine (CN.out _).mono ?_
      rintro e w1 ⟨rfl, o1⟩
      have O1 := hide (Old.trans HO.out o1)
      clear o1 CN x1
      go_wp2_with fail
      go_loopw [4] (fun kv wz => ∃ k : Nat, kv = .int .i64 k ∧ k ≤ i ∧ Hid (∀ m, m < k → (hm : m < cols.length) → (cols[m]).name ≠ N) ∧ Hid (Old w wz)) (fun kv _ => i - (intOf kv).toNat)
      case atStart => exact ⟨0, rfl, Nat.zero_le _, hide (fun j h => by omega), O1⟩
      case round =>
       obtain ⟨k, rfl, hk, HM, HO2⟩ := hrel
       by_cases hlk : k < i
       · have hki : (k : Int) < (i : Int) := by omega
         have hkc : k < cols.length := by omega
         have hkn : (k : Int) < (cols.length : Int) := by omega
         have y1 := ((hc2 i hlt).old HO2.out).2.1
         have y2 := ((hc2 k hkc).old HO2.out).2.1
         rw [hN.out] at y1
         obtain ⟨M, hM⟩ : ∃ M, Hid ((cols[k]).name = M) := ⟨_, hide rfl⟩
         rw [hM.out] at y2
         by_cases he : M = N
         · obtain rfl : B = false := by
            cases B
            · rfl
            · exact absurd ((hM.out.trans he).trans hN.out.symm) ((HI.out.1 rfl i hlt).2 k hlk)
           subst he
           go_wp2_with fail
           go_region
           go_wp2_with fail
           go_ret
           exact ⟨rfl, Old.drew HO2.out⟩
         · have hs := str_ne he
           have HM2 := hide (show ∀ m, m < k + 1 → (hm : m < cols.length) → (cols[m]).name ≠ N from fun m h hm => by
            rcases Nat.lt_or_ge m k with h' | h'
            · exact HM.out m h' hm
            · obtain rfl : m = k := by omega
              rw [hM.out]
              exact he)
           go_wp2_with fail
           go_region
           go_wp2_with fail
           go_roundw
           case rel => exact ⟨k + 1, by go_num, by omega, HM2, hide (Old.drew HO2.out)⟩
           case measure => simp [intOf]; omega
       · have hki : ¬ (k : Int) < (i : Int) := by omega
         have HK2 := hide (show ∀ j, j < i + 1 → (hj : j < cols.length) → isName (cols[j]).name = true ∧ ∀ k, (hk : k < j) → (cols[k]).name ≠ (cols[j]).name from fun j h hj => by
          rcases Nat.lt_or_ge j i with h' | h'
          · exact HK.out j h' hj
          · obtain rfl : j = i := by omega
            rw [hN.out]
            exact ⟨hz, fun m hm => HM.out m (by omega) (by omega)⟩)
         go_wp2_with fail
         go_roundw
         case rel => exact ⟨i + 1, by go_num, by omega, HK2, HO2⟩
         case measure => simp [intOf]; omega
  · have hli : ¬ (i : Int) < (cols.length : Int) := by omega
    obtain rfl : B = true := HI.out.2 fun j hj => HK.out j (by omega) hj
    go_wp2_with fail
    go_ret
    exact ⟨rfl, HO.out⟩
end Go.Proofs.YthlfljmfggmfdaaGreatDoor

/-! ###  -/
namespace Go.Proofs.YthlfljmfggmfdaaGreatDoor
open Go.RowKit
theorem results_box2 {fn : Func} {p u : Tmp} (h : fn.results = #[.cell p 38, .tmp u]) (tmps : Array Value) (w : World) (b : Nat) (v0 v1 v2 : Value) (hp : tmps.getD p undef = .pointer (some ⟨b, 0, none⟩)) (hb : w.heap[b]? = some (.cells #[v0, v1, v2] 38)) :
 (results fn tmps).run Tryz.prog w = .ok (.tuple #[.agg #[v0, v1, v2], tmps.getD u undef]) w := by
 rw [results_cell_tmp h, hp]
 simp [asAddr, Result.andThen, run_loadVar_row w b 38 38 #[v0, v1, v2] (0, 0) _ hb Tryz.underlying38 rfl cellSize]
theorem xT_null (l : List UInt8) : ((xT l).toList == (⟨#[110, 117, 108, 108]⟩ : ByteArray).toList) = false := by
 rw [ByteArray.toList_eq, ByteArray.toList_eq]
 simp [xT]
theorem xT_null2 (l : List UInt8) : ((xT l).toList == [110, 117, 108, 108]) = false := by
 rw [ByteArray.toList_eq]
 simp [xT]
theorem xhex_xT (l : List UInt8) : xhex ⟨(unhexP l).toArray⟩ = xT (hexL (unhexP l)) := by simp [xhex, xT]
theorem xT_inj {a b : List UInt8} (h : xT a = xT b) : a = b := by
 have := congrArg (fun x : ByteArray => x.data.toList) h
 simpa [xT] using this
def readOk (l : List UInt8) : Prop := unhexL l = some (unhexP l) ∧ (unhexP l).length ≤ 1024
instance (l : List UInt8) : Decidable (readOk l) := by unfold readOk; exact inferInstance
def readV (l : List UInt8) : Value := if readOk l then .tuple #[Cl ⟨false, 0, ⟨(unhexP l).toArray⟩⟩, .int .i64 0] else .tuple #[Cl ⟨false, 0, ⟨#[]⟩⟩, .int .i64 4]
theorem szB_len (l : List UInt8) : szB ⟨false, 0, ⟨l.toArray⟩⟩ = decide (l.length ≤ 1024) := by simp [szB, ByteArray.size]
set_option maxRecDepth 100000 in
set_option maxHeartbeats 4000000 in
theorem read5_run (l : List UInt8) (hl : l.length ≤ 1073741824) (w : World) (hT : Tabs w) : Calls Tryz.prog 92 #[Ty 5 false, .string (xT l)] w (Ret (readV l) w) := by
 have HT := hide hT
 have CM := hide (fun w' => (show Calls Tryz.prog 43 #[Ty 5 false] w' (Ret (.bool true) w') from may_run 5 false w'))
 have CO := hide (fun w' => of_5 false w')
 have CU := hide (fun w' => unhex_run l hl w')
 have CT := hide (fun (w' : World) (o : Old w w') => text5_run false 0 ⟨(unhexP l).toArray⟩ w' (hT.old o))
 have hnn := xT_null l
 have hnn2 := xT_null2 l
 have HX := hide (xhex_xT l)
 have HI := hide (fun (h : hexL (unhexP l) = l) => hex_pairs.1 h)
 have HJ := hide (fun (h : unhexL l = some (unhexP l)) => show xT (hexL (unhexP l)) = xT l by rw [hex_pairs.2 h])
 have HK := hide (fun (h : xT (hexL (unhexP l)) = xT l) => xT_inj h)
 rw [szB_len] at CT
 have hf2 := field_2
 obtain ⟨P, hP⟩ : ∃ P : List UInt8, unhexP l = P := ⟨_, rfl⟩
 have HR := hide (show readV l = if unhexL l = some P ∧ P.length ≤ 1024 then .tuple #[Cl ⟨false, 0, ⟨P.toArray⟩⟩, .int .i64 0] else .tuple #[Cl ⟨false, 0, ⟨#[]⟩⟩, .int .i64 4] by rw [← hP]; rfl)
 obtain ⟨V, hV⟩ : ∃ V, readV l = V := ⟨_, rfl⟩
 rw [hP] at CU CT HX HI HJ HK
 rw [hV] at HR ⊢
 obtain ⟨X, hX⟩ : ∃ X, xT l = X := ⟨_, rfl⟩
 rw [hX] at CU hnn hnn2 HK HJ ⊢
 obtain ⟨Y, hY⟩ : ∃ Y, xhex ⟨P.toArray⟩ = Y := ⟨_, rfl⟩
 rw [hY] at CT HX
 clear hT hP hV hX hY
 unfold Ret Cl Ty at *
 go_enter Tryz.func92, Tryz.ntmps92
 go_wp2_with fail
 refine (CM.out _).mono ?_
 rintro e w1 ⟨rfl, o1⟩
 have O1 := hide (Old.trans (Old.alloc (Old.alloc (Old.refl w) _) _) o1)
 have hsz : (w.alloc (.cells #[.int .i64 5, .bool false] 54)).heap.size = w.heap.size + 1 := by simp
 have T1 := hide (show w1.heap[w.heap.size]? = some (.cells #[.int .i64 5, .bool false] 54) from (o1.block _ (by simp; omega)).trans (((Old.alloc (Old.refl _) _).block _ (by simp)).trans (heap_alloc_new _ _)))
 have B1 := hide (show CBox w1 (w.heap.size + 1) ⟨false, 0, ⟨#[]⟩⟩ from (o1.block _ (by simp)).trans (by rw [← hsz]; exact heap_alloc_new _ _))
 clear o1 hsz
 have t0 := cell_of_heap (i := 0) T1.out
 have t1 := cell_of_heap (i := 1) T1.out
 go_wp2_with fail
 refine (CO.out _).mono ?_
 rintro e w2 ⟨rfl, o2⟩
 have O2 := hide (Old.trans O1.out o2)
 have T2 := hide ((o2.block _ (block_lt T1.out)).trans T1.out)
 have B2 := hide (B1.out.old o2)
 clear o2 t0 t1 T1 B1
 go_wp2_with fail
 refine (CU.out _).mono ?_
 rintro e w3 ⟨rfl, o3⟩
 have O3 := hide (Old.trans O2.out o3)
 obtain ⟨w4, hw4⟩ : ∃ w4, w4 = w3.alloc (.cells #[.bool false, .int .i64 0, .string ⟨P.toArray⟩] 38) := ⟨_, rfl⟩
 have O4 := hide (show Old w w4 by rw [hw4]; exact Old.alloc O3.out _)
 have T4 := hide (show w4.heap[w.heap.size]? = some (.cells #[.int .i64 5, .bool false] 54) by rw [hw4]; exact ((Old.alloc (Old.refl w3) _).block _ (Nat.lt_of_lt_of_le (block_lt T2.out) o3.size)).trans ((o3.block _ (block_lt T2.out)).trans T2.out))
 have B4 := hide (show CBox w4 (w.heap.size + 1) ⟨false, 0, ⟨#[]⟩⟩ by rw [hw4]; exact (B2.out.old o3).old (Old.alloc (Old.refl _) _))
 have C4 := hide (show CBox w4 w3.heap.size ⟨false, 0, ⟨P.toArray⟩⟩ by rw [hw4]; exact heap_alloc_new _ _)
 clear o3 T2 B2
 go_upto_region 4 with fail
 rw [← hw4]
 clear hw4
 have t0 := cell_of_heap (i := 0) T4.out
 have t1 := cell_of_heap (i := 1) T4.out
 obtain ⟨c0, c1, c2⟩ := C4.out.cells
 go_wp2_with fail
 refine (CT.out _ O4.out).mono ?_
 rintro e w5 ⟨rfl, o5⟩
 have O5 := hide (Old.trans O4.out o5)
 have B5 := hide (B4.out.old o5)
 have C5 := hide (C4.out.old o5)
 clear o5 t0 t1 c0 c1 c2 T4 B4 C4 CT
 obtain ⟨b0, b1, b2⟩ := B5.out.cells
 have fz := B5.out.free
 have hso := hide (fun v0 v1 v2 => show Old w (((w5.setCell ⟨w.heap.size + 1, 0, none⟩ v0).setCell ⟨w.heap.size + 1, 1, none⟩ v1).setCell ⟨w.heap.size + 1, 2, none⟩ v2) from Old.setCell (Old.setCell (Old.setCell O5.out (Nat.le_succ _) _) (Nat.le_succ _) _) (Nat.le_succ _) _)
 have hsh := hide (fun v0 v1 v2 => set3_heap B5.out v0 v1 v2)
 by_cases hsz : P.length ≤ 1024
 · by_cases hxy : Y = X
   · obtain ⟨c0, c1, c2⟩ := C5.out.cells
     have hu := HI.out (HK.out (by rw [← HX.out]; exact hxy))
     have HV := hide (HR.out.trans (if_pos ⟨hu, hsz⟩))
     have hd : decide (P.length ≤ 1024) = true := decide_eq_true hsz
     subst hxy
     clear HX HK HI HJ HR hu
     go_wp2_with fail
     refine bodyPost_ret (results_box2 rfl _ _ (w.heap.size + 1) _ _ _ rfl (hsh.out _ _ _)) rfl ?_
     exact ⟨by rw [HV.out]; rfl, hso.out _ _ _⟩
   · have hne := str_ne hxy
     have HV := hide (HR.out.trans (if_neg (fun h => hxy (by rw [HX.out, HJ.out h.1]))))
     have hd : decide (P.length ≤ 1024) = true := decide_eq_true hsz
     clear HX HK HI HJ HR
     go_wp2_with fail
     refine bodyPost_ret (results_box2 rfl _ _ (w.heap.size + 1) _ _ _ rfl (hsh.out _ _ _)) rfl ?_
     exact ⟨by rw [HV.out]; rfl, hso.out _ _ _⟩
 · have HV := hide (HR.out.trans (if_neg (fun h => hsz h.2)))
   have hd : decide (P.length ≤ 1024) = false := decide_eq_false hsz
   clear HX HK HI HJ HR
   go_wp2_with fail
   refine bodyPost_ret (results_box2 rfl _ _ (w.heap.size + 1) _ _ _ rfl (hsh.out _ _ _)) rfl ?_
   exact ⟨by rw [HV.out]; rfl, hso.out _ _ _⟩
end Go.Proofs.YthlfljmfggmfdaaGreatDoor
