/- The document's begins: can more bytes make a rune's bytes of some? The plain law. -/
import Derived.Test.YtdlcibbbebhcoaaGreatDoorUnquW
import Derived.Test.YtdlcibbbebhcoaaGreatDoorRefV
import Derived.IntWalk
/-! ### The document's begins: can more bytes make a rune's bytes of some? The plain law. -/
namespace Go.Proofs.YtdlcibbbebhcoaaGreatDoor
open Go.RowKit

theorem first_facts : ∀ k : _root_.Fin 256, (1 < Lib.firstT k.val % 8 ↔ 194 ≤ k.val ∧ k.val ≤ 244) ∧ (2 < Lib.firstT k.val % 8 ↔ 224 ≤ k.val ∧ k.val ≤ 244) ∧ (3 < Lib.firstT k.val % 8 ↔ 240 ≤ k.val ∧ k.val ≤ 244) ∧ Lib.firstT k.val % 8 ≤ 4 ∧
    (194 ≤ k.val ∧ k.val ≤ 244 → Lib.accLo (Lib.firstT k.val / 16) = (if k.val = 224 then 160 else if k.val = 240 then 144 else 128) ∧ Lib.accHi (Lib.firstT k.val / 16) = (if k.val = 237 then 159 else if k.val = 244 then 143 else 191)) := by decide +kernel
theorem first_of (a : UInt8) : (1 < Lib.firstT a.toNat % 8 ↔ 194 ≤ a.toNat ∧ a.toNat ≤ 244) ∧ (2 < Lib.firstT a.toNat % 8 ↔ 224 ≤ a.toNat ∧ a.toNat ≤ 244) ∧ (3 < Lib.firstT a.toNat % 8 ↔ 240 ≤ a.toNat ∧ a.toNat ≤ 244) ∧ Lib.firstT a.toNat % 8 ≤ 4 ∧
    (194 ≤ a.toNat ∧ a.toNat ≤ 244 → Lib.accLo (Lib.firstT a.toNat / 16) = (if a.toNat = 224 then 160 else if a.toNat = 240 then 144 else 128) ∧ Lib.accHi (Lib.firstT a.toNat / 16) = (if a.toNat = 237 then 159 else if a.toNat = 244 then 143 else 191)) := first_facts ⟨a.toNat, a.toNat_lt⟩
/-- is the whole text one rune of so many bytes? -/
def oneRune (l : List UInt8) (n : Nat) : Bool := decide (nextN (txt l) = n)
def begR (l : List UInt8) (n : Nat) : Bool := oneRune (l ++ List.replicate (n - l.length) 128) n || oneRune (l ++ List.replicate (n - l.length) 191) n
def beginsV (l : List UInt8) : Bool := (decide (l.length < 2) && begR l 2) || (decide (l.length < 3) && begR l 3) || (decide (l.length < 4) && begR l 4)
theorem next_2 (a b : UInt8) : oneRune [a, b] 2 = decide (¬ a.toNat < 128 ∧ a.toNat / 32 = 6 ∧ b.toNat / 64 = 2 ∧ 128 ≤ 64 * (a.toNat % 32) + b.toNat % 64) := by
  unfold oneRune nextN
  rw [hit1, hit2, hit_short (l := [a, b]) (n := 3) (by simp), hit_short (l := [a, b]) (n := 4) (by simp)]
  refine decide_eq_decide.2 ?_
  simp only [decide_eq_true_eq, Bool.false_eq_true, if_false]
  split
  · constructor
    · intro h; omega
    · intro h; omega
  · split
    · rename_i h1 h2
      exact ⟨fun _ => ⟨h1, h2⟩, fun _ => rfl⟩
    · rename_i h1 h2
      exact ⟨fun h => by omega, fun h => absurd h.2 h2⟩
theorem next_3 (a b c : UInt8) : oneRune [a, b, c] 3 = decide (a.toNat / 16 = 14 ∧ b.toNat / 64 = 2 ∧ c.toNat / 64 = 2 ∧ 2048 ≤ 64 * (64 * (a.toNat % 16) + b.toNat % 64) + c.toNat % 64 ∧ ¬ (55296 ≤ 64 * (64 * (a.toNat % 16) + b.toNat % 64) + c.toNat % 64 ∧ 64 * (64 * (a.toNat % 16) + b.toNat % 64) + c.toNat % 64 ≤ 57343)) := by
  unfold oneRune nextN
  rw [hit1, hit2, hit3, hit_short (l := [a, b, c]) (n := 4) (by simp)]
  refine decide_eq_decide.2 ?_
  simp only [decide_eq_true_eq, Bool.false_eq_true, if_false]
  split
  · exact ⟨fun h => by omega, fun h => by omega⟩
  · split
    · exact ⟨fun h => by omega, fun h => by omega⟩
    · split
      · rename_i h1 h2 h3
        exact ⟨fun _ => h3, fun _ => rfl⟩
      · rename_i h1 h2 h3
        exact ⟨fun h => by omega, fun h => absurd h h3⟩
theorem next_4 (a b c d : UInt8) : oneRune [a, b, c, d] 4 = decide (a.toNat / 8 = 30 ∧ b.toNat / 64 = 2 ∧ c.toNat / 64 = 2 ∧ d.toNat / 64 = 2 ∧ 65536 ≤ 64 * (64 * (64 * (a.toNat % 8) + b.toNat % 64) + c.toNat % 64) + d.toNat % 64 ∧ 64 * (64 * (64 * (a.toNat % 8) + b.toNat % 64) + c.toNat % 64) + d.toNat % 64 ≤ 1114111) := by
  unfold oneRune nextN
  rw [hit1, hit2, hit3, hit4]
  refine decide_eq_decide.2 ?_
  simp only [decide_eq_true_eq]
  split
  · exact ⟨fun h => by omega, fun h => by omega⟩
  · split
    · exact ⟨fun h => by omega, fun h => by omega⟩
    · split
      · exact ⟨fun h => by omega, fun h => by omega⟩
      · split
        · rename_i h1 h2 h3 h4
          exact ⟨fun _ => h4, fun _ => rfl⟩
        · rename_i h1 h2 h3 h4
          exact ⟨fun h => by omega, fun h => absurd h h4⟩
theorem rep1 (x : UInt8) : List.replicate 1 x = [x] := rfl
theorem rep2 (x : UInt8) : List.replicate 2 x = [x, x] := rfl
theorem rep3 (x : UInt8) : List.replicate 3 x = [x, x, x] := rfl
theorem n128 : (128 : UInt8).toNat = 128 := rfl
theorem n191 : (191 : UInt8).toNat = 191 := rfl
theorem begins_1 (a : UInt8) : beginsV [a] = !fullB [a] := by
  have h := first_of a
  have ha := a.toNat_lt
  have hf : fullB [a] = decide (Lib.firstT a.toNat % 8 ≤ 1) := by
    unfold fullB fullN
    simp only [List.length_cons, List.length_nil, Nat.zero_add, List.getD_cons_zero, Nat.lt_irrefl, false_and, if_false]
    split
    · rename_i h; exact (decide_eq_true h).symm
    · rename_i h; rw [decide_eq_false h]; rfl
  rw [hf]
  unfold beginsV begR
  simp only [List.length_cons, List.length_nil, Nat.zero_add, Nat.reduceSub, rep1, rep2, rep3, List.cons_append, List.nil_append, next_2, next_3, next_4, n128, n191, Nat.reduceLT, decide_true, Bool.true_and]
  obtain ⟨h1, h2, h3, h4, _⟩ := h
  rw [Bool.eq_iff_iff]
  simp only [Bool.or_eq_true, decide_eq_true_eq, Bool.not_eq_true', decide_eq_false_iff_not]
  constructor
  · intro h
    have : 194 ≤ a.toNat ∧ a.toNat ≤ 244 := by
      rcases h with ((h | h) | (h | h)) | (h | h) <;> (clear h1 h2 h3 h4; omega)
    have := h1.2 this
    omega
  · intro h
    have hx := h1.1 (by omega)
    clear h h1 h2 h3 h4
    rcases (show a.toNat ≤ 223 ∨ (224 ≤ a.toNat ∧ a.toNat ≤ 239) ∨ 240 ≤ a.toNat by omega) with c | c | c
    · exact .inl (.inl (.inl ⟨by omega, by omega, trivial, by omega⟩))
    · by_cases h7 : a.toNat = 237
      · exact .inl (.inr (.inl ⟨by omega, trivial, trivial, by omega, by omega⟩))
      · exact .inl (.inr (.inr ⟨by omega, trivial, trivial, by omega, by omega⟩))
    · by_cases h7 : a.toNat = 244
      · exact .inr (.inl ⟨by omega, trivial, trivial, trivial, by omega, by omega⟩)
      · exact .inr (.inr ⟨by omega, trivial, trivial, trivial, by omega, by omega⟩)
theorem begins_2 (a b : UInt8) : beginsV [a, b] = !fullB [a, b] := by
  obtain ⟨h1, h2, h3, h4, h5⟩ := first_of a
  have ha := a.toNat_lt
  have hb := b.toNat_lt
  have hf : fullB [a, b] = decide (Lib.firstT a.toNat % 8 ≤ 2 ∨ b.toNat < Lib.accLo (Lib.firstT a.toNat / 16) ∨ Lib.accHi (Lib.firstT a.toNat / 16) < b.toNat) := by
    unfold fullB fullN
    simp only [List.length_cons, List.length_nil, Nat.zero_add, Nat.reduceAdd, List.getD_cons_zero, List.getD_cons_succ, Nat.lt_irrefl, false_and, Nat.reduceLT, true_and]
    split
    · rename_i h; exact (decide_eq_true (.inl h)).symm
    · rename_i h
      split
      · rename_i h'; exact (decide_eq_true (.inr h')).symm
      · rename_i h'
        exact (decide_eq_false (by rintro (e | e); exact h e; exact h' e)).symm
  rw [hf]
  unfold beginsV begR
  simp only [List.length_cons, List.length_nil, Nat.zero_add, Nat.reduceAdd, Nat.reduceSub, rep1, rep2, List.cons_append, List.nil_append, next_3, next_4, n128, n191, Nat.reduceLT, decide_true, Bool.true_and, Nat.lt_irrefl, decide_false, Bool.false_and, Bool.false_or]
  rw [Bool.eq_iff_iff]
  simp only [Bool.or_eq_true, decide_eq_true_eq, Bool.not_eq_true', decide_eq_false_iff_not]
  by_cases hx : 194 ≤ a.toNat ∧ a.toNat ≤ 244
  · obtain ⟨e1, e2⟩ := h5 hx
    rw [e1, e2]
    clear h5
    constructor
    · intro h
      have : 224 ≤ a.toNat := by rcases h with (h | h) | (h | h) <;> (clear h1 h2 h3 h4; omega)
      have k2 := h2.2 ⟨this, hx.2⟩
      clear h1 h2 h3 h4
      rintro (k | k | k)
      · omega
      · split at k
        · rcases h with (h | h) | (h | h) <;> omega
        · split at k
          · rcases h with (h | h) | (h | h) <;> omega
          · rcases h with (h | h) | (h | h) <;> omega
      · split at k
        · rcases h with (h | h) | (h | h) <;> omega
        · split at k
          · rcases h with (h | h) | (h | h) <;> omega
          · rcases h with (h | h) | (h | h) <;> omega
    · intro h
      simp only [not_or] at h
      obtain ⟨k1, k2, k3⟩ := h
      have hy := h2.1 (by omega)
      clear h1 h2 h3 h4 k1
      by_cases h8 : a.toNat ≤ 239
      · by_cases h7 : a.toNat = 237
        · rw [if_pos h7] at k3
          rw [if_neg (by omega), if_neg (by omega)] at k2
          exact .inl (.inl ⟨by omega, by omega, trivial, by omega, by omega⟩)
        · rw [if_neg h7, if_neg (by omega)] at k3
          split at k2
          · exact .inl (.inr ⟨by omega, by omega, trivial, by omega, by omega⟩)
          · rw [if_neg (by omega)] at k2
            exact .inl (.inr ⟨by omega, by omega, trivial, by omega, by omega⟩)
      · by_cases h7 : a.toNat = 244
        · rw [if_neg (by omega), if_pos h7] at k3
          rw [if_neg (by omega), if_neg (by omega)] at k2
          exact .inr (.inl ⟨by omega, by omega, trivial, trivial, by omega, by omega⟩)
        · rw [if_neg (by omega), if_neg h7] at k3
          rw [if_neg (by omega)] at k2
          split at k2
          · exact .inr (.inr ⟨by omega, by omega, trivial, trivial, by omega, by omega⟩)
          · exact .inr (.inr ⟨by omega, by omega, trivial, trivial, by omega, by omega⟩)
  · have k1 : ¬ 2 < Lib.firstT a.toNat % 8 := fun e => hx ⟨by have := (h2.1 e).1; omega, (h2.1 e).2⟩
    clear h5
    constructor
    · intro h
      exfalso
      clear h1 h2 h3 h4
      rcases h with (h | h) | (h | h) <;> omega
    · intro h
      exact absurd (.inl (by omega)) h
theorem begins_3 (a b c : UInt8) : beginsV [a, b, c] = !fullB [a, b, c] := by
  obtain ⟨h1, h2, h3, h4, h5⟩ := first_of a
  have ha := a.toNat_lt
  have hb := b.toNat_lt
  have hc := c.toNat_lt
  have hf : fullB [a, b, c] = decide (Lib.firstT a.toNat % 8 ≤ 3 ∨ (b.toNat < Lib.accLo (Lib.firstT a.toNat / 16) ∨ Lib.accHi (Lib.firstT a.toNat / 16) < b.toNat) ∨ (c.toNat < 128 ∨ 191 < c.toNat)) := by
    unfold fullB fullN
    simp only [List.length_cons, List.length_nil, Nat.zero_add, Nat.reduceAdd, List.getD_cons_zero, List.getD_cons_succ, Nat.reduceLT, true_and]
    split
    · rename_i h; exact (decide_eq_true (.inl h)).symm
    · rename_i h
      split
      · rename_i h'; exact (decide_eq_true (.inr (.inl h'))).symm
      · rename_i h'
        refine decide_eq_decide.2 ⟨fun e => .inr (.inr e), fun e => ?_⟩
        rcases e with e | e | e
        · exact absurd e h
        · exact absurd e h'
        · exact e
  rw [hf]
  unfold beginsV begR
  simp only [List.length_cons, List.length_nil, Nat.zero_add, Nat.reduceAdd, Nat.reduceSub, rep1, List.cons_append, List.nil_append, next_4, n128, n191, Nat.reduceLT, decide_true, Bool.true_and, Nat.lt_irrefl, decide_false, Bool.false_and, Bool.false_or]
  rw [Bool.eq_iff_iff]
  simp only [Bool.or_eq_true, decide_eq_true_eq, Bool.not_eq_true', decide_eq_false_iff_not]
  by_cases hx : 240 ≤ a.toNat ∧ a.toNat ≤ 244
  · obtain ⟨e1, e2⟩ := h5 ⟨by omega, hx.2⟩
    rw [if_neg (by omega)] at e1 e2
    rw [e1, e2]
    clear h5
    have k3 := h3.2 hx
    clear h1 h2 h3 h4
    constructor
    · intro h
      rintro (k | k | k)
      · omega
      · rcases k with k | k
        · split at k <;> (rcases h with h | h <;> omega)
        · split at k <;> (rcases h with h | h <;> omega)
      · rcases h with h | h <;> omega
    · intro h
      simp only [not_or] at h
      obtain ⟨_, ⟨k2, k3⟩, k4, k5⟩ := h
      by_cases h7 : a.toNat = 244
      · rw [if_pos h7] at k3
        rw [if_neg (by omega)] at k2
        exact .inl ⟨by omega, by omega, by omega, trivial, by omega, by omega⟩
      · rw [if_neg h7] at k3
        split at k2
        · exact .inr ⟨by omega, by omega, by omega, trivial, by omega, by omega⟩
        · exact .inr ⟨by omega, by omega, by omega, trivial, by omega, by omega⟩
  · have k1 : ¬ 3 < Lib.firstT a.toNat % 8 := fun e => hx (h3.1 e)
    clear h5
    constructor
    · intro h
      exfalso
      clear h1 h2 h3 h4
      rcases h with h | h <;> omega
    · intro h
      exact absurd (.inl (by omega)) h
theorem begins_4 {l : List UInt8} (h : 4 ≤ l.length) : beginsV l = !fullB l := by
  have h4 := (first_of (l.getD 0 0)).2.2.2.1
  unfold beginsV fullB fullN
  rw [if_pos (by omega), decide_eq_false (by omega), decide_eq_false (by omega), decide_eq_false (by omega)]
  rfl
/-- can more bytes make a rune's bytes of some? -/
theorem begins_full {l : List UInt8} (h : l ≠ []) : beginsV l = !fullB l := by
  match l, h with
  | [a], _ => exact begins_1 a
  | [a, b], _ => exact begins_2 a b
  | [a, b, c], _ => exact begins_3 a b c
  | _ :: _ :: _ :: _ :: _, _ => exact begins_4 (by simp)
end Go.Proofs.YtdlcibbbebhcoaaGreatDoor

/-! ### The document's begins: the walk. -/
namespace Go.Proofs.YtdlcibbbebhcoaaGreatDoor
open Go.RowKit

def strSize : Value → Nat
  | .string s => s.size
  | _ => 0
def fillB (s : ByteArray) (k : Nat) (x : UInt8) : ByteArray := s ++ ⟨(List.replicate k x).toArray⟩
theorem fill_zero (s : ByteArray) (x : UInt8) : fillB s 0 x = s := by
  have h : (fillB s 0 x).data = s.data := by apply Array.toList_inj.1; simp [fillB]
  exact ByteArray.ext h
theorem fill_next (s : ByteArray) (k : Nat) (x : UInt8) : fillB s k x ++ ⟨#[x]⟩ = fillB s (k + 1) x := by
  have h : (fillB s k x ++ ⟨#[x]⟩ : ByteArray).data = (fillB s (k + 1) x).data := by apply Array.toList_inj.1; simp [fillB, List.replicate_succ']
  exact ByteArray.ext h
theorem fill_txt (s : ByteArray) (k : Nat) (x : UInt8) : fillB s k x = txt (s.data.toList ++ List.replicate k x) := by
  have h : (fillB s k x).data = (txt (s.data.toList ++ List.replicate k x)).data := by apply Array.toList_inj.1; simp [fillB, txt]
  exact ByteArray.ext h
theorem fill_size (s : ByteArray) (k : Nat) (x : UInt8) : (fillB s k x).size = s.size + k := by rw [fill_txt, txt_size, List.length_append, List.length_replicate, list_size]
/-- what Next answers, taken apart -/
theorem next_parts (s : ByteArray) (n : Nat) (hn : 0 < n) (w : World) : Calls Tryz.prog 62 #[.string s] w fun e w' => (∃ (r i : Int) (b : Bool), e = .returned (.tuple #[.int .i32 r, .int .i64 i, .bool b]) ∧ (b && (i == (n : Int))) = decide (nextN s = n)) ∧ Old w w' := by
  refine (next_run s w).mono fun e w' h => ⟨?_, h.2⟩
  rw [h.1]
  unfold nextVal
  split
  · rename_i h0
    exact ⟨0, 0, false, rfl, by rw [decide_eq_false (by omega)]; rfl⟩
  · rename_i h0
    refine ⟨_, _, true, rfl, ?_⟩
    rw [Bool.true_and, Bool.eq_iff_iff, beq_iff_eq, decide_eq_true_eq]
    omega
theorem begins_upto {l : List UInt8} {n : Nat} (h5 : 4 < n) (h : ∀ m, l.length < m → m < n → begR l m = false) : beginsV l = false := by
  unfold beginsV
  have a : ∀ m, 2 ≤ m → m ≤ 4 → (decide (l.length < m) && begR l m) = false := fun m h1 h2 => by
    by_cases hm : l.length < m
    · rw [h m hm (by omega), Bool.and_false]
    · rw [decide_eq_false hm, Bool.false_and]
  rw [a 2 (by omega) (by omega), a 3 (by omega) (by omega), a 4 (by omega) (by omega)]
  rfl
theorem begins_hit {l : List UInt8} {n : Nat} (h1 : 0 < l.length) (h2 : l.length < n) (h4 : n ≤ 4) (h : begR l n = true) : beginsV l = true := by
  unfold beginsV
  have hn : n = 2 ∨ n = 3 ∨ n = 4 := by omega
  rcases hn with rfl | rfl | rfl <;> simp [h, h2]
set_option maxRecDepth 100000 in
set_option maxHeartbeats 4000000 in
theorem rbegins_run (s : ByteArray) (w : World) (hs : 0 < s.size) (hs2 : s.size ≤ 1073741824) : Calls Tryz.prog 63 #[.string s] w fun e w' => e = .returned (.bool (beginsV s.data.toList)) ∧ Old w w' := by
  obtain ⟨B, hB⟩ : ∃ B, Hid (beginsV s.data.toList = B) := ⟨_, hide rfl⟩
  rw [hB.out]
  have hll : s.data.toList.length = s.size := list_size s
  have hwk : IntKind.i64.wrap ((s.size : Int) + 1) = (s.size : Int) + 1 := IntWalk.i64_in _ (by omega)
  go_enter Tryz.func63, Tryz.ntmps63
  go_wp2_with fail
  go_loopw [3] (fun i wr => ∃ n : Nat, i = .int .i64 n ∧ s.size < n ∧ n ≤ 1073741830 ∧ Hid (∀ m, s.data.toList.length < m → m < n → begR s.data.toList m = false) ∧ Hid (Old w wr)) (fun i _ => 5 - (intOf i).toNat)
  case atStart => exact ⟨s.size + 1, by go_num, by omega, by omega, hide (fun m h1 h2 => by omega), hide (Old.refl _)⟩
  case round =>
    obtain ⟨n, rfl, hn1, hn2, HN, HO⟩ := hrel
    by_cases h4 : n ≤ 4
    · have h4' : (n : Int) ≤ 4 := by omega
      obtain ⟨w5, hw5⟩ : ∃ x, x = wr := ⟨_, rfl⟩
      subst hw5
      go_wp2_with fail
      go_loopw [4, 5] (fun lo hi wz => ∃ k : Nat, lo = .string (fillB s k 128) ∧ hi = .string (fillB s k 191) ∧ s.size + k ≤ n ∧ wz = w5) (fun lo _ _ => n - strSize lo)
      case atStart => exact ⟨0, by rw [fill_zero], by rw [fill_zero], by omega, by first | rfl | trivial⟩
      case round =>
        obtain ⟨k, rfl, rfl, hk, rfl⟩ := hrel
        have z1 := fill_size s k 128
        have z2 := fill_size s k 191
        by_cases hlt : s.size + k < n
        · have hlt' : (((fillB s k 128).size : Nat) : Int) < (n : Int) := by omega
          have f1 := fill_next s k 128
          have f2 := fill_next s k 191
          have z3 := fill_size s (k + 1) 128
          go_wp2_with fail
          go_roundw
          case rel => exact ⟨k + 1, by first | rfl | rw [f1], by first | rfl | rw [f2], by omega, by first | rfl | trivial⟩
          case measure => simp [strSize]; omega
        · obtain ⟨lo, hlo⟩ : ∃ lo, Hid (fillB s k 128 = lo) := ⟨_, hide rfl⟩
          obtain ⟨hi, hhi⟩ : ∃ lo, Hid (fillB s k 191 = lo) := ⟨_, hide rfl⟩
          have BR := hide (show begR s.data.toList n = (decide (nextN lo = n) || decide (nextN hi = n)) by
            rw [← hlo.out, ← hhi.out, fill_txt, fill_txt]
            unfold begR oneRune
            rw [hll, show n - s.size = k by omega])
          have hlt' : ¬ ((lo.size : Nat) : Int) < (n : Int) := by rw [← hlo.out]; omega
          rw [hlo.out] at z1
          rw [hlo.out, hhi.out]
          have HIT := hide (show begR s.data.toList n = true → B = true from fun h => by rw [← hB.out]; exact begins_hit (by omega) (by omega) h4 h)
          have MISS := hide (show begR s.data.toList n = false → ∀ m, s.data.toList.length < m → m < n + 1 → begR s.data.toList m = false from fun h m h1 h2 => by
            rcases Nat.lt_or_ge m n with h3 | h3
            · exact HN.out m h1 h3
            · have e : m = n := by omega
              rw [e]; exact h)
          clear z1 z2 hk
          go_wp2_with fail
          refine (next_parts lo n (by omega) _).mono ?_
          rintro e w6 ⟨⟨r, i, b, rfl, hb⟩, o6⟩
          have O6 := hide (Old.trans HO.out o6)
          rw [← hb] at BR
          clear o6 hb
          go_wp2_with fail
          refine (next_parts hi n (by omega) w6).mono ?_
          rintro e w7 ⟨⟨r2, i2, b2, rfl, hb2⟩, o7⟩
          have O7 := hide (Old.trans O6.out o7)
          rw [← hb2] at BR
          clear o7 hb2
          cases hx : (i == (n : Int)) <;> cases hy : (i2 == (n : Int)) <;> cases b <;> cases b2
          all_goals
            rw [hx, hy] at BR
            first
              | (have FIN := hide (HIT.out BR.out)
                 clear HIT MISS BR
                 go_wp2_with fail
                 go_ret
                 exact ⟨congrArg (fun b => Ending.returned (.bool b)) FIN.out.symm, O7.out⟩)
              | (have FIN := hide (MISS.out BR.out)
                 clear HIT MISS BR
                 go_wp2_with fail
                 go_roundw
                 case rel => exact ⟨n + 1, by go_num, by omega, by omega, FIN, O7⟩
                 case measure => simp [intOf]; omega)
    · have FIN := hide (show B = false by rw [← hB.out]; exact begins_upto (by omega) HN.out)
      have h4' : ¬ (n : Int) ≤ 4 := by omega
      go_wp2_with fail
      go_ret
      exact ⟨congrArg (fun b => Ending.returned (.bool b)) FIN.out.symm, HO.out⟩
end Go.Proofs.YtdlcibbbebhcoaaGreatDoor
