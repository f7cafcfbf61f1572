/- The closed statement ZsetKnown: the walk. -/
import Derived.Test.YtggknmagpcnkoaaTurn
import Derived.StillTailTactics
import Derived.IntWalk
namespace Go.Proofs.Ytggknmagpcnkoaa
open Go.RowKit

theorem two_items {w : World} {g : Nat} {u v : Value} {r s : List Cell} {i j : Int} (h0 : w.cell? ⟨g, 0, none⟩ = some u) (h1 : w.cell? ⟨g, 1, none⟩ = some (.int .i64 i)) (h2 : w.cell? ⟨g, 2, none⟩ = some v) (h3 : w.cell? ⟨g, 3, none⟩ = some (.int .i64 j)) (hu : RowIs w u r) (hv : RowIs w v s) :
    ItemsIs w (.slice (some ⟨g, 0, none⟩) 2 2) [⟨r, i⟩, ⟨s, j⟩] := by
  refine ⟨[u, v], rfl, ⟨_, _, rfl, Nat.le_refl _, by unfold maxLen; omega, fun _ => ⟨g, 0, rfl, fun k x hx => ?_⟩⟩, fun k hk hk' => ?_⟩
  · match k, hx with
    | 0, hx => simp [itemVals] at hx; subst hx; exact h0
    | 1, hx => simp [itemVals] at hx; subst hx; exact h1
    | 2, hx => simp [itemVals] at hx; subst hx; exact h2
    | 3, hx => simp [itemVals] at hx; subst hx; exact h3
    | k + 4, hx => simp [itemVals] at hx
  · match k, hk, hk' with
    | 0, _, _ => exact hu
    | 1, _, _ => exact hv
    | k + 2, hk, _ => simp at hk; omega
theorem one_item {w : World} {g : Nat} {u : Value} {r : List Cell} {i : Int} (h0 : w.cell? ⟨g, 0, none⟩ = some u) (h1 : w.cell? ⟨g, 1, none⟩ = some (.int .i64 i)) (hu : RowIs w u r) :
    ItemsIs w (.slice (some ⟨g, 0, none⟩) 1 1) [⟨r, i⟩] := by
  refine ⟨[u], rfl, ⟨_, _, rfl, Nat.le_refl _, by unfold maxLen; omega, fun _ => ⟨g, 0, rfl, fun k x hx => ?_⟩⟩, fun k hk hk' => ?_⟩
  · match k, hx with
    | 0, hx => simp [itemVals] at hx; subst hx; exact h0
    | 1, hx => simp [itemVals] at hx; subst hx; exact h1
    | k + 2, hx => simp [itemVals] at hx
  · match k, hk, hk' with
    | 0, _, _ => exact hu
    | k + 1, hk, _ => simp at hk
theorem row1_new (w : World) (n : Nat) (h : w.heap.size = n) (b : Bool) (i : Int) (t : ByteArray) : RowIs (w.alloc (.cells #[.bool b, .int .i64 i, .string t] 49)) (.slice (some ⟨n, 0, none⟩) 1 1) [⟨b, i, t⟩] :=
  row_one (Nat.le_refl _) (by omega) (by rw [cell_of_heap (heap_new _ _ _ h)]; rfl) (by rw [cell_of_heap (heap_new _ _ _ h)]; rfl) (by rw [cell_of_heap (heap_new _ _ _ h)]; rfl)
theorem row2_new (w : World) (n : Nat) (h : w.heap.size = n) (b : Bool) (i : Int) (t : ByteArray) (b2 : Bool) (i2 : Int) (t2 : ByteArray) : RowIs (w.alloc (.cells #[.bool b, .int .i64 i, .string t, .bool b2, .int .i64 i2, .string t2] 49)) (.slice (some ⟨n, 0, none⟩) 2 2) [⟨b, i, t⟩, ⟨b2, i2, t2⟩] := by
  refine ⟨_, _, rfl, Nat.le_refl _, by unfold maxLen; omega, fun _ => ⟨n, 0, rfl, fun j u hu => ?_⟩⟩
  have e : (rowVals [(⟨b, i, t⟩ : Cell), ⟨b2, i2, t2⟩]) = [.bool b, .int .i64 i, .string t, .bool b2, .int .i64 i2, .string t2] := rfl
  rw [e] at hu
  rw [Nat.zero_add, cell_of_heap (heap_new _ _ _ h)]
  simpa using hu
/-- what the statement's own lists hold: rows, and numbers -/
def RowsK (w : World) (H : Nat) : Prop := ∀ k : Nat, k < 9 → ∃ A n c r, w.cell? ⟨H, k, none⟩ = some (.slice A n c) ∧ RowIs w (.slice A n c) r
def EndsK (w : World) (H : Nat) : Prop := ∀ k : Nat, k < 7 → ∃ z : Int, w.cell? ⟨H, k, none⟩ = some (.int .i64 z) ∧ fit z
theorem RowsK.old {w w' : World} {H : Nat} (h : RowsK w H) (ho : Old w w') : RowsK w' H := fun k hk => by
  obtain ⟨A, n, c, r, h1, h2⟩ := h k hk
  exact ⟨A, n, c, r, ho.cell h1, h2.old ho⟩
theorem EndsK.old {w w' : World} {H : Nat} (h : EndsK w H) (ho : Old w w') : EndsK w' H := fun k hk => by
  obtain ⟨z, h1, h2⟩ := h k hk
  exact ⟨z, ho.cell h1, h2⟩
theorem zset_Check_nil (w : World) : Calls Try.prog 26 #[.slice none 0 0] w fun e w' => e = .returned (.int .i64 0) ∧ Old w w' :=
  check_as (zset_Check _ [] _ (ItemsIs.nil_ w)) rfl

set_option maxRecDepth 100000 in
set_option maxHeartbeats 2000000 in
theorem zsetKnown_run (w : World) : Calls Try.prog 9 #[] w fun e w' => e = .returned (.bool true) ∧ Old w w' := by
  go_enter Try.func9, Try.ntmps9
  go_wp2_with fail
  go_loopw [3] (fun i wr => ∃ k : Nat, i = .int .i64 k ∧ k ≤ 9 ∧ Hid (Old w wr) ∧ Hid (RowsK wr (w.heap.size + 1 + 1 + 1 + 1 + 1 + 1 + 1 + 1)) ∧ Hid (EndsK wr (w.heap.size + 1 + 1 + 1 + 1 + 1 + 1 + 1 + 1 + 1))) (fun i _ => 9 - (intOf i).toNat)
  case atStart =>
    refine ⟨0, rfl, by omega, hide ?_, hide ?_, hide ?_⟩
    · exact Old.alloc (Old.alloc (Old.alloc (Old.alloc (Old.alloc (Old.alloc (Old.alloc (Old.alloc (Old.alloc (Old.alloc (Old.refl _) _) _) _) _) _) _) _) _) _) _
    · intro k hk
      match k, hk with
      | 0, _ => exact ⟨none, 0, 0, [], by go_simp, Sl.nil_ _⟩
      | 1, _ => exact ⟨some ⟨w.heap.size, 0, none⟩, 1, 1, _, by go_simp, Sl.old (row1_new _ _ (by simp) _ _ _) (Old.alloc (Old.alloc (Old.alloc (Old.alloc (Old.alloc (Old.alloc (Old.alloc (Old.alloc (Old.alloc (Old.refl _) _) _) _) _) _) _) _) _) _)⟩
      | 2, _ => exact ⟨some ⟨w.heap.size + 1, 0, none⟩, 2, 2, _, by go_simp, Sl.old (row2_new _ _ (by simp) _ _ _ _ _ _) (Old.alloc (Old.alloc (Old.alloc (Old.alloc (Old.alloc (Old.alloc (Old.alloc (Old.alloc (Old.refl _) _) _) _) _) _) _) _) _)⟩
      | 3, _ => exact ⟨some ⟨w.heap.size + 1 + 1, 0, none⟩, 1, 1, _, by go_simp, Sl.old (row1_new _ _ (by simp) _ _ _) (Old.alloc (Old.alloc (Old.alloc (Old.alloc (Old.alloc (Old.alloc (Old.alloc (Old.refl _) _) _) _) _) _) _) _)⟩
      | 4, _ => exact ⟨some ⟨w.heap.size + 1 + 1 + 1, 0, none⟩, 1, 1, _, by go_simp, Sl.old (row1_new _ _ (by simp) _ _ _) (Old.alloc (Old.alloc (Old.alloc (Old.alloc (Old.alloc (Old.alloc (Old.refl _) _) _) _) _) _) _)⟩
      | 5, _ => exact ⟨some ⟨w.heap.size + 1 + 1 + 1 + 1, 0, none⟩, 1, 1, _, by go_simp, Sl.old (row1_new _ _ (by simp) _ _ _) (Old.alloc (Old.alloc (Old.alloc (Old.alloc (Old.alloc (Old.refl _) _) _) _) _) _)⟩
      | 6, _ => exact ⟨some ⟨w.heap.size + 1 + 1 + 1 + 1 + 1, 0, none⟩, 1, 1, _, by go_simp, Sl.old (row1_new _ _ (by simp) _ _ _) (Old.alloc (Old.alloc (Old.alloc (Old.alloc (Old.refl _) _) _) _) _)⟩
      | 7, _ => exact ⟨some ⟨w.heap.size + 1 + 1 + 1 + 1 + 1 + 1, 0, none⟩, 2, 2, _, by go_simp, Sl.old (row2_new _ _ (by simp) _ _ _ _ _ _) (Old.alloc (Old.alloc (Old.alloc (Old.refl _) _) _) _)⟩
      | 8, _ => exact ⟨some ⟨w.heap.size + 1 + 1 + 1 + 1 + 1 + 1 + 1, 0, none⟩, 1, 1, _, by go_simp, Sl.old (row1_new _ _ (by simp) _ _ _) (Old.alloc (Old.alloc (Old.refl _) _) _)⟩
      | k + 9, hk => omega
    · intro k hk
      match k, hk with
      | 0, _ => exact ⟨-9223372036854775808, by go_simp, by decide⟩
      | 1, _ => exact ⟨-9223372036854775807, by go_simp, by decide⟩
      | 2, _ => exact ⟨-1, by go_simp, by decide⟩
      | 3, _ => exact ⟨0, by go_simp, by decide⟩
      | 4, _ => exact ⟨1, by go_simp, by decide⟩
      | 5, _ => exact ⟨4611686018427387904, by go_simp, by decide⟩
      | 6, _ => exact ⟨9223372036854775807, by go_simp, by decide⟩
      | k + 7, hk => omega
  case round =>
    obtain ⟨i, rfl, hi, HO, HR, HE⟩ := hrel
    obtain ⟨w1, hw1⟩ : ∃ w1 : World, w1 = wr := ⟨_, rfl⟩
    subst hw1
    by_cases hi9 : i < 9
    · have hni : (0 : Int) ≤ (i : Int) ∧ (i : Int) < 9 := ⟨by omega, by omega⟩
      have hdi : decide ((i : Int) < 9) = true := decide_eq_true hni.2
      go_wp2_with fail
      go_loopw [4] (fun i wr => ∃ k : Nat, i = .int .i64 k ∧ k ≤ 9 ∧ Hid (Old w wr) ∧ Hid (RowsK wr (w.heap.size + 1 + 1 + 1 + 1 + 1 + 1 + 1 + 1)) ∧ Hid (EndsK wr (w.heap.size + 1 + 1 + 1 + 1 + 1 + 1 + 1 + 1 + 1))) (fun i _ => 9 - (intOf i).toNat)
      case atStart => exact ⟨0, rfl, by omega, HO, HR, HE⟩
      case round =>
        clear HO HR HE
        obtain ⟨k, rfl, hk, HO, HR, HE⟩ := hrel
        obtain ⟨w2, hw2⟩ : ∃ w2 : World, w2 = wr := ⟨_, rfl⟩
        subst hw2
        by_cases hk9 : k < 9
        · have hnk : (0 : Int) ≤ (k : Int) ∧ (k : Int) < 9 := ⟨by omega, by omega⟩
          have hdk : decide ((k : Int) < 9) = true := decide_eq_true hnk.2
          go_wp2_with fail
          go_loopw [5] (fun i wr => ∃ k : Nat, i = .int .i64 k ∧ k ≤ 7 ∧ Hid (Old w wr) ∧ Hid (RowsK wr (w.heap.size + 1 + 1 + 1 + 1 + 1 + 1 + 1 + 1)) ∧ Hid (EndsK wr (w.heap.size + 1 + 1 + 1 + 1 + 1 + 1 + 1 + 1 + 1))) (fun i _ => 7 - (intOf i).toNat)
          case atStart => exact ⟨0, rfl, by omega, HO, HR, HE⟩
          case round =>
            clear HO HR HE
            obtain ⟨n, rfl, hn, HO, HR, HE⟩ := hrel
            by_cases hn7 : n < 7
            · obtain ⟨Ai, ni, ci, ri, a1, a2⟩ := HR.out i hi9
              obtain ⟨Ak, nk, ck, rk, b1, b2⟩ := HR.out k hk9
              obtain ⟨z0, c1, c2⟩ := HE.out n hn7
              obtain ⟨z1, d1, d2⟩ := HE.out ((n + i) % 7) (Nat.mod_lt _ (by omega))
              obtain ⟨z2, e1, e2⟩ := HE.out ((n + 3) % 7) (Nat.mod_lt _ (by omega))
              obtain ⟨q3, hq3⟩ : ∃ q : Nat, Hid ((n + 3) % 7 = q) := ⟨_, hide rfl⟩
              rw [hq3.out] at e1
              have hq7 : q3 < 7 := by rw [← hq3.out]; exact Nat.mod_lt _ (by omega)
              have HT3 := hide (show ((n : Int) + 3).tmod 7 = (q3 : Int) by rw [← hq3.out, Int.tmod_eq_emod_of_nonneg (by omega)]; omega)
              clear hq3
              obtain ⟨z3, f1, f2⟩ := HE.out ((n + k) % 7) (Nat.mod_lt _ (by omega))
              have RI := hide a2
              have RK := hide b2
              have F0 := hide c2
              have F1 := hide d2
              have F2 := hide e2
              have F3 := hide f2
              clear a2 b2 c2 d2 e2 f2
              have m1 : (n + i) % 7 < 7 := Nat.mod_lt _ (by omega)
              have m2 : (n + 3) % 7 < 7 := Nat.mod_lt _ (by omega)
              have m3 : (n + k) % 7 < 7 := Nat.mod_lt _ (by omega)
              have HA1 := hide a1
              have HB1 := hide b1
              have HC1 := hide c1
              have HD1 := hide d1
              have HE1 := hide e1
              have HF1 := hide f1
              have hnn : (0 : Int) ≤ (n : Int) ∧ (n : Int) < 7 := ⟨by omega, by omega⟩
              go_wp2_with fail
              go_still_tail 15, (by kernel_rfl)
              go_wp2_with fail
              have LW := hide (show ∀ w3, w3 = (wr.alloc (.cells #[.slice Ai ni ci, .int .i64 z0, .slice Ak nk ck, .int .i64 z1] 37)).drew → Old wr w3 ∧ ItemsIs w3 (.slice (some ⟨wr.heap.size, 0, none⟩) 2 2) [⟨ri, z0⟩, ⟨rk, z1⟩] from fun w3 h => by
                subst h
                exact ⟨((Old.refl wr).alloc _).drew, two_items (by go_simp) (by go_simp) (by go_simp) (by go_simp) (RI.out.old ((Old.refl wr).alloc _).drew) (RK.out.old ((Old.refl wr).alloc _).drew)⟩)
              generalize hE : (wr.alloc (.cells #[.slice Ai ni ci, .int .i64 z0, .slice Ak nk ck, .int .i64 z1] 37)).drew = w3
              obtain ⟨o3, l3⟩ := LW.out _ hE.symm
              have L := hide l3
              have O3 := hide o3
              clear LW hE a1 b1 c1 d1 e1 f1 l3 o3
              skip
              have b1 := O3.out.cell HB1.out
              have e1 := O3.out.cell HE1.out
              have hw3 : IntKind.i64.wrap ((n : Int) + 3) = (n : Int) + 3 := IntWalk.i64_in _ (by omega)
              have hx3 : (0 : Int) ≤ (q3 : Int) ∧ (q3 : Int) < 7 := ⟨by omega, by omega⟩
              have ht3 := HT3.out
              go_still_tail 13, (by kernel_rfl)
              clear hw3 ht3 hx3
              go_upto_region 15 with fail
              have LW := hide (show ∀ w4, w4 = (w3.alloc (.cells #[.slice Ak nk ck, .int .i64 z2] 37)).drew → Old w3 w4 ∧ ItemsIs w4 (.slice (some ⟨w3.heap.size, 0, none⟩) 1 1) [⟨rk, z2⟩] from fun w4 h => by
                subst h
                exact ⟨((Old.refl w3).alloc _).drew, one_item (by go_simp) (by go_simp) (RK.out.old (Old.trans O3.out ((Old.refl w3).alloc _).drew))⟩)
              generalize hE : (w3.alloc (.cells #[.slice Ak nk ck, .int .i64 z2] 37)).drew = w4
              obtain ⟨o4, m4⟩ := LW.out _ hE.symm
              have M := hide m4
              replace L := hide (L.out.old o4)
              have O4 := hide (Old.trans O3.out o4)
              have RK4 := hide (RK.out.old O4.out)
              clear LW hE b1 e1 m4 o4 O3
              have FL := hide (show ∀ x ∈ [(⟨ri, z0⟩ : Item), ⟨rk, z1⟩], fit x.w from fun x hx => by simp at hx; rcases hx with rfl | rfl; exact F0.out; exact F1.out)
              have FM := hide (show ∀ x ∈ [(⟨rk, z2⟩ : Item)], fit x.w from fun x hx => by simp at hx; subst hx; exact F2.out)
              have FN := hide (show fit (n : Int) from ⟨by omega, by omega⟩)
              have b1 := O4.out.cell HB1.out
              go_wp2_with fail
              refine (zsetTells_run _ _ _ _ _ _ _ L.out M.out RK4.out FL.out).mono ?_
              rintro e w5 ⟨rfl, o5⟩
              replace L := hide (L.out.old o5)
              replace M := hide (M.out.old o5)
              replace O4 := hide (Old.trans O4.out o5)
              have f1 := O4.out.cell HF1.out
              clear b1 o5
              go_wp2_with fail
              refine (zsetMakes_run _ _ _ _ z3 n _ L.out M.out FL.out FM.out F3.out FN.out).mono ?_
              rintro e w6 ⟨rfl, o6⟩
              replace L := hide (L.out.old o6)
              replace M := hide (M.out.old o6)
              replace O4 := hide (Old.trans O4.out o6)
              clear f1 o6
              go_wp2_with fail
              refine (zsetMakes_run _ _ _ _ z1 1 _ M.out L.out FM.out FL.out F1.out (by decide)).mono ?_
              rintro e w7 ⟨rfl, o7⟩
              replace L := hide (L.out.old o7)
              replace M := hide (M.out.old o7)
              replace O4 := hide (Old.trans O4.out o7)
              clear o7
              go_wp2_with fail
              refine (zsetNorm_run _ _ _ _ n _ L.out M.out FL.out FM.out).mono ?_
              rintro e w8 ⟨rfl, o8⟩
              replace O4 := hide (Old.trans O4.out o8)
              clear o8 L M
              go_wp2_with fail
              go_roundw
              case rel => exact ⟨n + 1, by go_num, by omega, hide (Old.trans HO.out O4.out), hide (HR.out.old O4.out), hide (HE.out.old O4.out)⟩
              case measure => simp [intOf]; omega
            · go_wp2_with fail
              go_roundw
              case rel => exact ⟨k + 1, by go_num, by omega, HO, HR, HE⟩
              case measure => simp [intOf]; omega
        · go_wp2_with fail
          go_roundw
          case rel => exact ⟨i + 1, by go_num, by omega, HO, HR, HE⟩
          case measure => simp [intOf]; omega
    · go_wp2_with fail
      refine (works_run _).mono ?_
      rintro e w3 ⟨rfl, o3⟩
      go_wp2_with fail
      refine (zset_Check_nil _).mono ?_
      rintro e w4 ⟨rfl, o4⟩
      go_wp2_with fail
      go_ret
      exact ⟨rfl, Old.trans HO.out (Old.trans o3 o4)⟩
end Go.Proofs.Ytggknmagpcnkoaa
