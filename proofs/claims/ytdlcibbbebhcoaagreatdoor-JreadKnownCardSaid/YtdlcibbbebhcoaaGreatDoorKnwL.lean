/- JreadKnown's texts: what they are read as: plain laws. -/
import Derived.Test.YtdlcibbbebhcoaaGreatDoorMayL
import Derived.Lib.Repeat
/-! ### JreadKnown's texts: what they are read as: plain laws. -/
namespace Go.Proofs.YtdlcibbbebhcoaaGreatDoor

/-- a text's place and error; nothing, if it is a value -/
def resOf (l : List UInt8) : Nat × Int := match parseV l with | .error x => x | .ok _ => (0, 0)
def onesR (m : Nat) : List UInt8 := Lib.repeatL [44, 49] m ++ [93]
theorem num_one (r : List UInt8) : numV (49 :: 44 :: r) = .ok (1, 44 :: r) := by
  rfl
theorem num_end : numV [49, 93] = .ok (1, [93]) := by
  rfl
theorem leaf_one (r : List UInt8) : leafV 49 (49 :: 44 :: r) = .ok (oneJ 4 1 none_, 44 :: r) := by
  unfold leafV
  rw [if_neg (by decide), if_neg (by decide), if_neg (by decide), if_neg (by decide), num_one]
theorem leaf_end : leafV 49 [49, 93] = .ok (oneJ 4 1 none_, [93]) := by
  unfold leafV
  rw [if_neg (by decide), if_neg (by decide), if_neg (by decide), if_neg (by decide), num_end]
theorem pv_one {f n d : Nat} {r : List UInt8} (hn : n < 4000) (hd : d < 64) : pv (f + 1) n d (49 :: r) = leafV 49 (49 :: r) := by
  rw [pv]
  rw [if_neg (by decide), if_neg (by omega), if_neg (by omega), if_neg (by decide)]
theorem pv_full {f d : Nat} {r : List UInt8} : pv (f + 1) 4000 d (49 :: r) = .error (49 :: r, 5) := by
  rw [pv]
  rw [if_neg (by decide), if_pos (by omega)]
theorem ones_pp : ∀ (m f n : Nat), 2 * m + 2 ≤ f → n ≤ 4000 →
    (n + m < 4000 → ∃ js, pp f false n 1 [] (49 :: onesR m) = .ok (js, [])) ∧ (4000 ≤ n + m → pp f false n 1 [] (49 :: onesR m) = .error (49 :: onesR (m - (4000 - n)), 5)) := by
  intro m
  induction m with
  | zero =>
    intro f n hf hn
    obtain ⟨f, rfl⟩ : ∃ g, f = g + 2 := ⟨f - 2, by omega⟩
    refine ⟨fun h => ?_, fun h => ?_⟩
    · refine ⟨[(oneJ 4 1 none_).rekey none_], ?_⟩
      have e : (49 :: onesR 0 : List UInt8) = [49, 93] := rfl
      rw [e, pp]
      simp only [keyV, if_true]
      rw [show skipB [49, 93] = [49, 93] from rfl, pv_one (by omega) (by omega), leaf_end]
      rfl
    · obtain rfl : n = 4000 := by omega
      have e : (49 :: onesR 0 : List UInt8) = [49, 93] := rfl
      rw [e, pp]
      simp only [keyV, if_true]
      rw [show skipB [49, 93] = [49, 93] from rfl, pv_full]
  | succ m ih =>
    intro f n hf hn
    obtain ⟨f, rfl⟩ : ∃ g, f = g + 2 := ⟨f - 2, by omega⟩
    have e : (49 :: onesR (m + 1) : List UInt8) = 49 :: 44 :: 49 :: onesR m := rfl
    rcases Nat.lt_or_ge n 4000 with h4 | h4
    · obtain ⟨i1, i2⟩ := ih (f + 1) (n + 1) (by omega) (by omega)
      have hst : pp (f + 2) false n 1 [] (49 :: onesR (m + 1)) = match pp (f + 1) false (n + 1) 1 [] (49 :: onesR m) with
          | .error b => .error b
          | .ok (js, l4) => .ok ((oneJ 4 1 none_).rekey none_ :: js, l4) := by
        rw [e, pp]
        simp only [keyV, if_true]
        rw [show skipB (49 :: 44 :: 49 :: onesR m) = 49 :: 44 :: 49 :: onesR m from rfl, pv_one h4 (by omega), leaf_one]
        simp only
        rw [show moreV false (44 :: 49 :: onesR m) = .ok (true, 49 :: onesR m) from rfl]
        simp only
        rw [show (oneJ 4 1 none_).flat.length = 1 from rfl, show hadOf false [] none_ = [] from rfl]
        rfl
      rw [hst]
      refine ⟨fun h => ?_, fun h => ?_⟩
      · obtain ⟨js, hj⟩ := i1 (by omega)
        rw [hj]
        exact ⟨_, rfl⟩
      · rw [i2 (by omega)]
        simp only
        rw [show m + 1 - (4000 - n) = m - (4000 - (n + 1)) by omega]
    · obtain rfl : n = 4000 := by omega
      refine ⟨fun h => absurd h (by omega), fun _ => ?_⟩
      rw [e, pp]
      simp only [keyV, if_true]
      rw [show skipB (49 :: 44 :: 49 :: onesR m) = 49 :: 44 :: 49 :: onesR m from rfl, pv_full]
      rfl
theorem onesR_len (m : Nat) : (onesR m).length = 2 * m + 1 := by
  unfold onesR
  rw [List.length_append, Lib.repeatL_length]
  simp
  omega
theorem pv_ones (m f : Nat) : pv (f + 1) 0 0 (91 :: 49 :: onesR m) = match pp f false 1 1 [] (49 :: onesR m) with
    | .error b => .error b
    | .ok (js, r2) => .ok (.mk ⟨6, none_, 0, none_⟩ js, r2) := by
  rw [pv]
  rw [if_neg (by decide), if_neg (by omega), if_neg (by omega), if_pos (by decide)]
  rfl
theorem ones_ok (m : Nat) (h : m < 3999) : resOf (91 :: 49 :: onesR m) = (0, 0) := by
  obtain ⟨js, hj⟩ := (ones_pp m (2 * m + 7) 1 (by omega) (by omega)).1 (by omega)
  have hl : (91 :: 49 :: onesR m : List UInt8).length = 2 * m + 3 := by simp only [List.length_cons, onesR_len]
  unfold resOf parseV
  rw [if_neg (by omega)]
  unfold fuelOf
  rw [hl, show skipB (91 :: 49 :: onesR m) = 91 :: 49 :: onesR m from rfl, show 2 * (2 * m + 3) + 2 = (2 * m + 7 + 2 * m) + 1 by omega, pv_ones m _]
  obtain ⟨js', hj'⟩ := (ones_pp m (2 * m + 7 + 2 * m) 1 (by omega) (by omega)).1 (by omega)
  rw [hj']
  rfl
theorem ones_bad : resOf (91 :: 49 :: onesR 3999) = (7999, 5) := by
  have hl : (91 :: 49 :: onesR 3999 : List UInt8).length = 8001 := by simp only [List.length_cons, onesR_len]
  unfold resOf parseV
  rw [if_neg (by omega)]
  unfold fuelOf
  rw [hl, show skipB (91 :: 49 :: onesR 3999) = 91 :: 49 :: onesR 3999 from rfl, show 2 * 8001 + 2 = 16003 + 1 by omega, pv_ones 3999 _, (ones_pp 3999 16003 1 (by omega) (by omega)).2 (by omega)]
  rfl
theorem skip_rep (r : List UInt8) : ∀ n, skipB (Lib.repeatL [32] n ++ r) = skipB r
  | 0 => rfl
  | n + 1 => by
    show skipB (32 :: (Lib.repeatL [32] n ++ r)) = _
    rw [← skip_rep r n]
    rfl
theorem spaces_len (n : Nat) : (Lib.repeatL [32] n).length = n := by rw [Lib.repeatL_length]; simp
theorem spaces_much (n : Nat) (h : 1048576 < n) : resOf (Lib.repeatL [32] n) = (0, 5) := by
  have hl := spaces_len n
  generalize Lib.repeatL [32] n = l at hl
  unfold resOf parseV
  rw [if_pos (by omega)]
theorem spaces_some (n : Nat) (h : n ≤ 1048575) : resOf (Lib.repeatL [32] n ++ [49]) = (0, 0) := by
  have hl : (Lib.repeatL [32] n ++ [49]).length = n + 1 := by rw [List.length_append, spaces_len]; rfl
  have hs := skip_rep [49] n
  generalize Lib.repeatL [32] n ++ [49] = l at hl hs
  unfold resOf parseV
  rw [if_neg (by omega)]
  unfold fuelOf
  rw [hl, hs, show skipB [49] = [49] from rfl, show 2 * (n + 1) + 2 = (2 * n + 3) + 1 by omega, pv_one (by omega) (by omega)]
  rw [show leafV 49 [49] = .ok (oneJ 4 1 none_, []) from rfl]
  rfl
def deepK (n : Nat) : List UInt8 := Lib.repeatL [91] n ++ Lib.repeatL [93] n
theorem deep_62 : resOf (deepK 62) = (0, 0) := by kernel_rfl
theorem deep_63 : resOf (deepK 63) = (0, 0) := by kernel_rfl
theorem deep_64 : resOf (deepK 64) = (0, 0) := by kernel_rfl
theorem deep_65 : resOf (deepK 65) = (64, 72) := by kernel_rfl
theorem deep_66 : resOf (deepK 66) = (64, 72) := by kernel_rfl
end Go.Proofs.YtdlcibbbebhcoaaGreatDoor
