/- The statements' own inputs: a seed in its box: next, word. -/
import Derived.Test.YtmolmphbhdbcaaaGreatDoorExam
import Derived.Test.YtmolmphbhdbcaaaGreatDoorAgainL
import Derived.Test.YtmolmphbhdbcaaaGreatDoorSortB
import Derived.Deep.DeepCutAuto
import Derived.IntWalk
import Derived.Deep.RegionHeld3
/-! ### The statements' own inputs: a seed in its box: next, word. -/
/-! ### The statements' own inputs: a seed in its box: next, word. -/
namespace Go.Proofs.YtmolmphbhdbcaaaGreatDoor
open Go.RowKit

def numVals (l : List Int) : List Value := l.map fun n => .int .i64 n
/-- a slice value that is these numbers -/
abbrev NumsIs (w : World) (v : Value) (l : List Int) : Prop := Sl w v l.length (numVals l)
/-- a seed in its box: the numbers that are left -/
structure SeedIs (sb : Nat) (w : World) (N : List Int) : Prop where
  box : ∃ A c, w.cell? ⟨sb, 0, none⟩ = some (.slice A N.length c) ∧ N.length ≤ c ∧ c ≤ maxLen ∧ (N ≠ [] → ∃ b off, A = some ⟨b, off, none⟩ ∧ b < sb ∧ ∀ j u, N[j]? = some u → w.cell? ⟨b, off + j, none⟩ = some (.int .i64 u))
  free : w.frozen? ⟨sb, 0, none⟩ = false
theorem SeedIs.old {sb : Nat} {w w' : World} {N : List Int} (h : SeedIs sb w N) (k : Old w w') : SeedIs sb w' N := by
  obtain ⟨⟨A, c, h1, h2, h3, h4⟩, h5⟩ := h
  refine ⟨⟨A, c, k.cell h1, h2, h3, fun hne => ?_⟩, k.frozen h1 h5⟩
  obtain ⟨b, off, rfl, hb, hc⟩ := h4 hne
  exact ⟨b, off, rfl, hb, fun j u hu => k.cell (hc j u hu)⟩
theorem SeedIs.below {sb B : Nat} {w w' : World} {N : List Int} (h : SeedIs sb w N) (k : RowKit.Below B w w') (hs : sb < B) : SeedIs sb w' N := by
  obtain ⟨⟨A, c, h1, h2, h3, h4⟩, h5⟩ := h
  refine ⟨⟨A, c, (k.cell hs).trans h1, h2, h3, fun hne => ?_⟩, (k.frozen hs).trans h5⟩
  obtain ⟨b, off, rfl, hb, hc⟩ := h4 hne
  exact ⟨b, off, rfl, hb, fun j u hu => (k.cell (show b < B by omega)).trans (hc j u hu)⟩
theorem Two.then_below {sb : Nat} {a b c : World} (h : Two sb sb a b) (k : RowKit.Below a.heap.size b c) : Two sb sb a c :=
  ⟨k.os.trans h.os, k.tape.trans h.tape, k.output.trans h.output, Nat.le_trans h.size k.size, fun i h1 h2 h3 => (k.block i h1).trans (h.block i h1 h2 h3)⟩
theorem Two.one_size {sb : Nat} {w w' : World} (h : Two sb sb w w') : w.heap.size ≤ w'.heap.size := h.size
theorem SlT.two {T lo n : Nat} {sb : Nat} {w w' : World} {v : Value} {xs : List Value} (h : SlT T lo w v n xs) (k : Two sb sb w w') (hs : sb < lo) : SlT T lo w' v n xs := by
  obtain ⟨A, cap, rfl, h1, h2, h3⟩ := h
  refine ⟨A, cap, rfl, h1, h2, fun hx => ?_⟩
  obtain ⟨b, off, cs, rfl, hl, hh, hc⟩ := h3 hx
  refine ⟨b, off, cs, rfl, hl, ?_, hc⟩
  rw [k.block b (block_lt hh) (by omega) (by omega)]
  exact hh
theorem own_two {base T size n : Nat} {sb : Nat} {w w' : World} {v : Value} {xs : List Value} (h : w.ownsRow base T size v n xs) (k : Two sb sb w w') (hs : sb < base) : w'.ownsRow base T size v n xs := by
  obtain ⟨hl, h2⟩ := h
  refine ⟨hl, ?_⟩
  rcases h2 with h2 | ⟨g, cap, cur, rfl, hb, hh, r⟩
  · exact .inl h2
  · refine .inr ⟨g, cap, cur, rfl, hb, ?_, r⟩
    rw [k.block g (block_lt hh) (by omega) (by omega)]
    exact hh
theorem PartsOwn.two {base sb : Nat} {w w' : World} {v : Value} {ps : List (List Nd)} (h : PartsOwn base w v ps) (k : Two sb sb w w') (hs : sb < base) : PartsOwn base w' v ps := by
  obtain ⟨vs, h1, h2, h3⟩ := h
  exact ⟨vs, h1, own_two h2 k hs, fun i hi hi' => (h3 i hi hi').two k hs⟩

set_option maxRecDepth 100000 in
theorem bring_run (i n : Int) (w : World) (hn : 0 < n) (hn' : n ≤ 1125899906842624) :
    Calls Tryz.prog 62 #[.int .i64 i, .int .i64 n] w fun e w' => (∃ k : Nat, (k : Int) < n ∧ e = .returned (.int .i64 k)) ∧ w = w' := by
  have h1 := Int.tmod_lt_of_pos i hn
  have h2 := Int.neg_tmod i n
  have h3 : -n < i.tmod n := by
    have := Int.tmod_lt_of_pos (-i) hn
    rw [h2] at this
    omega
  clear h2
  go_enter Tryz.func62, Tryz.ntmps62
  go_wp2_with fail
  · go_ret
    exact ⟨⟨(i.tmod n + n).toNat, by omega, ret_int (by omega)⟩, rfl⟩
  · go_ret
    exact ⟨⟨(i.tmod n).toNat, by omega, ret_int (by omega)⟩, rfl⟩
/-- what next hands back -/
def NextT (n : Int) (sb : Nat) (w : World) (N : List Int) (e : Ending) (w' : World) : Prop := ∃ k : Nat, (k : Int) < n ∧ e = .returned (.int .i64 k) ∧ SeedIs sb w' N.tail ∧ Two sb sb w w'
theorem next_nil {n : Int} {sb : Nat} {w : World} (h : SeedIs sb w []) (hn : 0 < n) : NextT n sb w [] (.returned (.int .i64 0)) w := ⟨0, by omega, rfl, h, Two.refl _ _ _⟩
theorem next_cons {n : Int} {sb : Nat} {w : World} {x : Int} {xs : List Int} {k : Nat} {A : Option Addr} {c : Nat} {A0 : Value} (h0 : w.cell? ⟨sb, 0, none⟩ = some A0) (hf : w.frozen? ⟨sb, 0, none⟩ = false) (hk : (k : Int) < n) (hc : xs.length ≤ c) (hm : c ≤ maxLen)
    (ha : xs ≠ [] → ∃ b off, A = some ⟨b, off, none⟩ ∧ b < sb ∧ ∀ j u, xs[j]? = some u → w.cell? ⟨b, off + j, none⟩ = some (.int .i64 u)) : NextT n sb w (x :: xs) (.returned (.int .i64 k)) (w.setCell ⟨sb, 0, none⟩ (.slice A xs.length c)) := by
  refine ⟨k, hk, rfl, ⟨⟨A, c, World.cell?_setCell_same _ _ _ h0, hc, hm, fun hne => ?_⟩, by rw [World.frozen?_setCell]; exact hf⟩, (Two.refl sb sb w).setBox 0 _⟩
  obtain ⟨b, off, rfl, hb, hu⟩ := ha hne
  refine ⟨b, off, rfl, hb, fun j u hj => ?_⟩
  refine ((Two.refl sb sb w).setBox 0 _).cell (hu j u hj) (by show b ≠ sb; omega) (by show b ≠ sb; omega)

set_option maxRecDepth 100000 in
set_option maxHeartbeats 1000000 in
theorem seed_next (n : Int) (sb : Nat) (N : List Int) (w : World) (h : SeedIs sb w N) (hn : 0 < n) (hn' : n ≤ 1125899906842624) :
    Calls Tryz.prog 45 #[.pointer (some ⟨sb, 0, none⟩), .int .i64 n] w (NextT n sb w N) := by
  have H := hide h
  obtain ⟨⟨A, c, h1, h2, h3, h4⟩, h5⟩ := h
  unfold maxLen at h3
  cases N with
  | nil =>
    simp only [List.length_nil] at h1
    clear h4
    go_enter Tryz.func45, Tryz.ntmps45
    go_wp2_with fail
    go_ret
    exact next_nil H.out hn
  | cons x xs =>
    obtain ⟨b, off, rfl, hb, hu⟩ := h4 (by simp)
    have x0 := hu 0 x rfl
    have HU := hide hu
    obtain ⟨m, hm⟩ : ∃ m, Hid (xs.length = m) := ⟨_, hide rfl⟩
    have HB := hide hb
    simp only [List.length_cons, hm.out] at h1 h2
    rw [Nat.add_zero] at x0
    have CB := hide (bring_run x n w hn (by omega))
    clear hu h4 hb
    by_cases hc : c = 1
    · subst hc
      obtain rfl : m = 0 := by omega
      have hx : xs = [] := List.eq_nil_of_length_eq_zero hm.out
      have FIN := hide (fun (k : Nat) (hk : (k : Int) < n) (A : Option Addr) (c : Nat) (hc : c ≤ maxLen) => next_cons (n := n) (sb := sb) (w := w) (x := x) (xs := xs) (k := k) (A := A) (c := c) h1 h5 hk (by rw [hx]; exact Nat.zero_le _) hc (fun h => absurd hx h))
      rw [hm.out] at FIN
      clear hx
      go_enter Tryz.func45, Tryz.ntmps45
      go_wp2_with fail
      refine CB.out.mono ?_
      rintro e w' ⟨⟨k, hk, rfl⟩, rfl⟩
      go_wp2_with fail
      go_ret
      exact FIN.out k hk _ _ (by unfold maxLen; omega)
    · have FIN := hide (fun (k : Nat) (hk : (k : Int) < n) => next_cons (n := n) (sb := sb) (w := w) (x := x) (xs := xs) (k := k) (A := some ⟨b, off + 1, none⟩) (c := c - 1) h1 h5 hk (by rw [hm.out]; omega) (by unfold maxLen; omega) (fun _ => ⟨b, off + 1, rfl, HB.out, fun j u hj => by
        have := HU.out (j + 1) u (by simpa using hj)
        rwa [show off + 1 + j = off + (j + 1) by omega]⟩))
      rw [hm.out] at FIN
      have hc1 : ¬ (c : Int) = 1 := by omega
      go_enter Tryz.func45, Tryz.ntmps45
      go_wp2_with fail
      refine CB.out.mono ?_
      rintro e w' ⟨⟨k, hk, rfl⟩, rfl⟩
      go_wp2_with fail
      go_ret
      exact FIN.out k hk
end Go.Proofs.YtmolmphbhdbcaaaGreatDoor

/-! ### The statements' own inputs: the words. -/
namespace Go.Proofs.YtmolmphbhdbcaaaGreatDoor
open Go.RowKit

def words : List ByteArray := [⟨#[]⟩, ⟨#[97]⟩, ⟨#[98]⟩, ⟨#[97, 98]⟩, ⟨#[0]⟩, ⟨#[195, 164]⟩, ⟨#[34, 92]⟩, ⟨#[122]⟩, ⟨#[240, 159, 152, 128]⟩, ⟨#[10, 31, 47]⟩]
theorem words_size : ∀ s ∈ words, s.size ≤ 4 := by decide
theorem words_valid : ∀ s ∈ words, vU s = true := by
  intro s hs
  simp only [words, List.mem_cons, List.not_mem_nil, or_false] at hs
  rcases hs with rfl | rfl | rfl | rfl | rfl | rfl | rfl | rfl | rfl | rfl <;> kernel_rfl
/-- a word, and the letter of a place -/
def letterAt (i : Nat) : ByteArray := ⟨#[(97 + i).toUInt8]⟩
theorem word_letters : (words.all fun s => (List.range 5).all fun i => vU (s ++ letterAt i)) = true := by kernel_rfl
theorem word_letter : ∀ s ∈ words, ∀ i : Nat, i < 5 → vU (s ++ letterAt i) = true := by
  intro s hs i hi
  exact List.all_eq_true.1 (List.all_eq_true.1 word_letters s hs) i (List.mem_range.2 hi)
theorem letter_apart {s t : ByteArray} {i j : Nat} (hi : i < 5) (hj : j < 5) (h : s ++ letterAt i = t ++ letterAt j) : i = j := by
  have e := congrArg (fun x : ByteArray => x.data.toList.getLast?) h
  simp only [ByteArray.data_append, letterAt, Array.toList_append] at e
  simp only [List.getLast?_append, List.getLast?_singleton, Option.some_or, Option.some.injEq] at e
  have h5 : i = 0 ∨ i = 1 ∨ i = 2 ∨ i = 3 ∨ i = 4 := by omega
  have h6 : j = 0 ∨ j = 1 ∨ j = 2 ∨ j = 3 ∨ j = 4 := by omega
  rcases h5 with rfl | rfl | rfl | rfl | rfl <;> rcases h6 with rfl | rfl | rfl | rfl | rfl <;> first | rfl | (revert e; decide)
theorem SeedIs.lt {sb : Nat} {w : World} {N : List Int} (h : SeedIs sb w N) : sb < w.heap.size := by
  obtain ⟨⟨A, c, h1, _⟩, _⟩ := h
  exact World.block_lt_of_cell? w _ h1
theorem Two.after_old {sb : Nat} {a b c : World} (h : Old a b) (k : Two sb sb b c) : Two sb sb a c := ((Two.refl sb sb a).old h).trans k

end Go.Proofs.YtmolmphbhdbcaaaGreatDoor

/-! ### Values made of parts with keys of their own: plain laws. -/
namespace Go.Proofs.YtmolmphbhdbcaaaGreatDoor
open Go.RowKit

theorem rekey_ok {V : ByteArray → Bool} {k : ByteArray} {j : J} (h : J.Ok V j) : J.Ok V (j.rekey k) := by
  cases j with
  | mk hd l =>
    simp only [J.rekey, J.Ok, leafOk, plainHd] at *
    exact h
theorem rekeys_oks {V : ByteArray → Bool} : ∀ {ks : List ByteArray} {js : List J}, J.Oks V js → J.Oks V (rekeys ks js)
  | [], _, _ => by simp [rekeys, J.Oks]
  | _ :: _, [], _ => by simp [rekeys, J.Oks]
  | k :: ks, j :: js, h => by
    simp only [J.Oks] at h
    simp only [rekeys, J.Oks]
    exact ⟨rekey_ok h.1, rekeys_oks h.2⟩
theorem rekey_key (k : ByteArray) (j : J) : (j.rekey k).key = k := by cases j; rfl
theorem rekeys_keys : ∀ {ks : List ByteArray} {js : List J}, ks.length = js.length → (rekeys ks js).map J.key = ks
  | [], [], _ => rfl
  | k :: ks, j :: js, h => by
    simp only [rekeys, List.map_cons, rekey_key]
    rw [rekeys_keys (by simpa using h)]
theorem rekeys_flats : ∀ {ks : List ByteArray} {js : List J}, ks.length = js.length → (J.flats (rekeys ks js)).length = (J.flats js).length
  | [], [], _ => rfl
  | k :: ks, j :: js, h => by
    rw [rekeys, flats_cons, flats_cons, List.length_append, List.length_append, rekey_size, rekeys_flats (by simpa using h)]
theorem keysOk_of {V : ByteArray → Bool} : ∀ {ks had : List ByteArray}, (∀ s ∈ ks, V s = true) → ks.Nodup → (∀ s ∈ ks, s ∉ had) → keysOk V had ks
  | [], _, _, _, _ => by simp [keysOk]
  | k :: ks, had, h1, h2, h3 => by
    obtain ⟨h4, h5⟩ := List.nodup_cons.1 h2
    refine ⟨h1 k (by simp), h3 k (by simp), keysOk_of (fun s hs => h1 s (by simp [hs])) h5 fun s hs => ?_⟩
    simp only [List.mem_append, List.mem_singleton, not_or]
    exact ⟨h3 s (by simp [hs]), fun e => h4 (e ▸ hs)⟩
/-- short texts, numbers of 64 bits -/
def Tiny (l : List Nd) : Prop := ∀ x ∈ l, x.key.size ≤ 5 ∧ x.s.size ≤ 4 ∧ -9223372036854775808 ≤ x.n ∧ x.n ≤ 9223372036854775807
theorem Tiny.texts {l : List Nd} (h : Tiny l) : TextsOk l := fun x hx => by
  have := h x hx
  unfold maxLen
  omega
theorem texts_rekey {k : ByteArray} {j : J} (hk : k.size ≤ 5) (h : Tiny j.flat) : Tiny (j.rekey k).flat := by
  cases j with
  | mk hd l =>
    intro x hx
    rw [J.rekey, flat_mk, List.mem_cons] at hx
    rcases hx with rfl | hx
    · exact ⟨hk, (h ⟨hd.kind, hd.key, hd.n, hd.s, (J.flats l).length + 1⟩ (by rw [flat_mk]; exact List.mem_cons_self)).2⟩
    · exact h x (by rw [flat_mk]; exact List.mem_cons_of_mem _ hx)
theorem texts_rekeys : ∀ {ks : List ByteArray} {js : List J}, (∀ s ∈ ks, s.size ≤ 5) → (∀ j ∈ js, Tiny j.flat) → Tiny (J.flats (rekeys ks js))
  | [], _, _, _ => by intro x hx; simp [rekeys, J.flats] at hx
  | _ :: _, [], _, _ => by intro x hx; simp [rekeys, J.flats] at hx
  | k :: ks, j :: js, h1, h2 => by
    intro x hx
    rw [rekeys, flats_cons, List.mem_append] at hx
    rcases hx with hx | hx
    · exact texts_rekey (h1 k (by simp)) (h2 j (by simp)) x hx
    · exact texts_rekeys (fun s hs => h1 s (by simp [hs])) (fun j hj => h2 j (by simp [hj])) x hx
theorem texts_flats {js : List J} (h : ∀ j ∈ js, Tiny j.flat) : Tiny (J.flats js) := by
  induction js with
  | nil => intro x hx; simp [J.flats] at hx
  | cons j js ih =>
    intro x hx
    rw [flats_cons, List.mem_append] at hx
    rcases hx with hx | hx
    · exact h j (by simp) x hx
    · exact ih (fun y hy => h y (by simp [hy])) x hx
theorem texts_root {k : Int} {l : List J} (h : Tiny (J.flats l)) : Tiny (J.flat (.mk ⟨k, none_, 0, none_⟩ l)) := by
  intro x hx
  rw [flat_mk, List.mem_cons] at hx
  rcases hx with rfl | hx
  · exact ⟨Nat.zero_le _, Nat.zero_le _, by show (-9223372036854775808 : Int) ≤ 0; omega, by show (0 : Int) ≤ 9223372036854775807; omega⟩
  · exact h x hx
/-- the parts of a list, or an object, that a seed makes -/
structure KidsS (deep n0 i : Nat) (js : List J) (pl : List (List Nd)) (ks : List ByteArray) (m : Nat) : Prop where
  may : AllMay pl js
  texts : ∀ p ∈ pl, Tiny p
  deeps : J.deeps js + deep ≤ 7
  len : pl.length + i ≤ 4
  klen : ks.length = pl.length
  size : (J.flats js).length + 2 * m + 4 ≤ pl.length + 2 * n0
  left : m ≤ n0
  keys : ∀ s ∈ ks, ∃ x ∈ words, ∃ c, i < c ∧ c < 5 ∧ s = x ++ letterAt c
  nodup : ks.Nodup
theorem KidsS.zero {deep n0 i m : Nat} (hd : deep ≤ 7) (hi : i ≤ 4) (hm : m + 2 ≤ n0) : KidsS deep n0 i [] [] [] m where
  may := ⟨rfl, fun i h => absurd h (by simp)⟩
  texts := by simp
  deeps := by simp only [J.deeps]; omega
  len := by simpa using hi
  klen := rfl
  size := by simp only [J.flats, List.length_nil]; omega
  left := by omega
  keys := by simp
  nodup := List.nodup_nil
theorem KidsS.next {deep n0 i m m' : Nat} {js : List J} {pl : List (List Nd)} {ks : List ByteArray} (h : KidsS deep n0 (i + 1) js pl ks m) {t : List Nd} {j : J} {x : ByteArray} (hm : May t j) (ht : Tiny t) (hd : j.deep + (deep + 1) ≤ 8) (hs : t.length + 2 * m' ≤ 1 + 2 * m) (hl : m' ≤ m) (hx : x ∈ words) {m2 : Nat} (hm2 : m2 ≤ m') :
    KidsS deep n0 i (js ++ [j]) (pl ++ [t]) (ks ++ [x ++ letterAt (i + 1)]) m2 where
  may := by
    refine ⟨by simp [h.may.1], fun k hk hk' => ?_⟩
    have hl := h.may.1
    rcases Nat.lt_or_ge k pl.length with hlt | hge
    · rw [List.getElem_append_left hlt, List.getElem_append_left (by omega)]
      exact h.may.2 k hlt (by omega)
    · rw [List.getElem_append_right hge, List.getElem_append_right (by omega)]
      simpa using hm
  texts := by
    intro p hp
    rcases List.mem_append.1 hp with hp | hp
    · exact h.texts p hp
    · simp at hp
      subst hp
      exact ht
  deeps := by
    have := h.deeps
    rw [deeps_append]
    simp only [J.deeps]
    omega
  len := by have := h.len; simp; omega
  klen := by simp [h.klen]
  size := by
    have := h.size
    have e := hm.1.2.2
    rw [flats_append, flats_one, List.length_append, ← e]
    simp only [List.length_append, List.length_cons, List.length_nil]
    omega
  left := by have := h.left; omega
  keys := by
    intro s hs
    rcases List.mem_append.1 hs with hs | hs
    · obtain ⟨y, h1, c, h2, h3, h4⟩ := h.keys s hs
      exact ⟨y, h1, c, by omega, h3, h4⟩
    · simp at hs
      subst hs
      exact ⟨x, hx, i + 1, by omega, by have := h.len; omega, rfl⟩
  nodup := by
    have hlen := h.len
    refine List.nodup_append.2 ⟨h.nodup, by simp, fun s hs u hu => ?_⟩
    simp at hu
    subst hu
    rintro rfl
    obtain ⟨y, h1, c, h2, h3, h4⟩ := h.keys _ hs
    have := letter_apart (i := i + 1) (j := c) (by omega) h3 h4
    omega
theorem KidsS.key_size {deep n0 i m : Nat} {js : List J} {pl : List (List Nd)} {ks : List ByteArray} (h : KidsS deep n0 i js pl ks m) : ∀ s ∈ ks, s.size ≤ 5 := by
  intro s hs
  obtain ⟨x, h1, c, _, _, rfl⟩ := h.keys s hs
  have := words_size x h1
  rw [ByteArray.size_append]
  have e : (letterAt c).size = 1 := rfl
  omega
theorem KidsS.key_valid {deep n0 i m : Nat} {js : List J} {pl : List (List Nd)} {ks : List ByteArray} (h : KidsS deep n0 i js pl ks m) : ∀ s ∈ ks, vU s = true := by
  intro s hs
  obtain ⟨x, h1, c, _, h3, rfl⟩ := h.keys s hs
  exact word_letter x h1 c h3
theorem allMay_oks {pl : List (List Nd)} {js : List J} (h : AllMay pl js) : J.Oks vU js := oks_of fun j hj => by
  obtain ⟨i, hi, rfl⟩ := List.getElem_of_mem hj
  exact (h.2 i (by have := h.1; omega) hi).1.1
theorem allMay_texts {pl : List (List Nd)} {js : List J} (h : AllMay pl js) (ht : ∀ p ∈ pl, Tiny p) : ∀ j ∈ js, Tiny j.flat := by
  intro j hj
  obtain ⟨i, hi, rfl⟩ := List.getElem_of_mem hj
  have hip : i < pl.length := by have := h.1; omega
  rw [← (h.2 i hip hi).1.2.2]
  exact ht _ (List.getElem_mem hip)
theorem KidsS.list {deep n0 i m : Nat} {js : List J} {pl : List (List Nd)} {ks : List ByteArray} (h : KidsS deep n0 i js pl ks m) (hn : n0 ≤ 150) :
    May (J.flat (.mk ⟨6, none_, 0, none_⟩ js)) (.mk ⟨6, none_, 0, none_⟩ js) ∧ ListT pl (J.flat (.mk ⟨6, none_, 0, none_⟩ js)) 0 ∧ Tiny (J.flat (.mk ⟨6, none_, 0, none_⟩ js)) ∧ (J.flat (.mk ⟨6, none_, 0, none_⟩ js)).length + 2 * m ≤ 1 + 2 * n0 ∧ (J.mk ⟨6, none_, 0, none_⟩ js).deep + deep ≤ 8 := by
  have h1 := h.size
  have h2 := h.len
  have h3 := h.deeps
  have hlen : (J.flat (.mk ⟨6, none_, 0, none_⟩ js)).length = (J.flats js).length + 1 := by rw [flat_mk, List.length_cons]
  refine ⟨⟨⟨?_, rfl, rfl⟩, by omega, by simp only [J.deep]; omega⟩, .inr ⟨js, h.may, .inr (.inr ⟨by omega, by omega, rfl, rfl⟩)⟩, texts_root (texts_flats (allMay_texts h.may h.texts)), by omega, by simp only [J.deep]; omega⟩
  simp only [J.Ok]
  exact .inr (.inl ⟨by trivial, ⟨rfl, rfl⟩, allMay_oks h.may, allMay_keys h.may⟩)
theorem KidsS.obj {deep n0 i m : Nat} {js : List J} {pl : List (List Nd)} {ks : List ByteArray} (h : KidsS deep n0 i js pl ks m) (hn : n0 ≤ 150) :
    May (J.flat (.mk ⟨7, none_, 0, none_⟩ (rekeys ks js))) (.mk ⟨7, none_, 0, none_⟩ (rekeys ks js)) ∧ ObjT ks pl (J.flat (.mk ⟨7, none_, 0, none_⟩ (rekeys ks js))) 0 ∧ Tiny (J.flat (.mk ⟨7, none_, 0, none_⟩ (rekeys ks js))) ∧ (J.flat (.mk ⟨7, none_, 0, none_⟩ (rekeys ks js))).length + 2 * m ≤ 1 + 2 * n0 ∧ (J.mk ⟨7, none_, 0, none_⟩ (rekeys ks js)).deep + deep ≤ 8 := by
  have h1 := h.size
  have h2 := h.len
  have h3 := h.deeps
  have hk : ks.length = js.length := h.klen.trans h.may.1
  have hlen : (J.flat (.mk ⟨7, none_, 0, none_⟩ (rekeys ks js))).length = (J.flats js).length + 1 := by rw [flat_mk, List.length_cons, rekeys_flats hk]
  have hdp := rekeys_deeps ks js hk
  have hks : ∀ s ∈ ks, s.size ≤ 5 := h.key_size
  refine ⟨⟨⟨?_, rfl, rfl⟩, by omega, by simp only [J.deep]; omega⟩, .inr ⟨h.klen, .inr ⟨fun j hj => ?_, js, h.may, .inr (.inr ⟨by rw [rekeys_flats hk]; omega, by omega, rfl, rfl⟩)⟩⟩, texts_root (texts_rekeys hks (allMay_texts h.may h.texts)), by omega, by simp only [J.deep]; omega⟩
  · simp only [J.Ok]
    refine .inr (.inr ⟨by trivial, ⟨rfl, rfl⟩, rekeys_oks (allMay_oks h.may), ?_⟩)
    rw [rekeys_keys hk]
    exact keysOk_of h.key_valid h.nodup (by simp)
  · have hjk : j < ks.length := by rw [h.klen]; exact hj
    rw [objErr_chk hjk hj (h.key_valid _ (List.getElem_mem hjk)) (by
      rw [hasKey_not]
      intro hm
      obtain ⟨i, hi, e⟩ := List.mem_take_iff_getElem.1 hm
      have := (List.getElem_inj h.nodup).1 e
      omega)]
    exact allMay_chk h.may j hj
end Go.Proofs.YtmolmphbhdbcaaaGreatDoor

/-! ### The statements' own inputs: the value of a seed. -/
namespace Go.Proofs.YtmolmphbhdbcaaaGreatDoor
open Go.RowKit

/-- what a value of a seed is -/
def ValueT (deep sb : Nat) (w : World) (N : List Int) (e : Ending) (w' : World) : Prop :=
  ∃ (v : Value) (t : List Nd) (j : J) (N' : List Int), e = .returned v ∧ NodesT w.heap.size w' v t ∧ May t j ∧ Tiny t ∧ j.deep + deep ≤ 8 ∧ t.length + 2 * N'.length ≤ 1 + 2 * N.length ∧ N'.length ≤ N.length ∧ SeedIs sb w' N' ∧ Two sb sb w w'
theorem leaf_texts {k n : Int} {s : ByteArray} (hs : s.size ≤ 4) (hn : -9223372036854775808 ≤ n ∧ n ≤ 9223372036854775807) : Tiny (leafT k n s) := by
  intro x hx
  simp [leafT] at hx
  subst hx
  exact ⟨Nat.zero_le _, hs, hn⟩
theorem value_leaf_t {deep sb : Nat} {w w1 w' : World} {N N' : List Int} {v : Value} {k n : Int} {s : ByteArray} (hd : deep ≤ 7) (h : NodesT w1.heap.size w' v (leafT k n s)) (hl : leafOk vU ⟨k, none_, n, s⟩) (hs : s.size ≤ 4) (hn : -9223372036854775808 ≤ n ∧ n ≤ 9223372036854775807) (hN : N'.length ≤ N.length) (h1 : SeedIs sb w1 N') (h2 : Two sb sb w w1) (o : Old w1 w') :
    ValueT deep sb w N (.returned v) w' := by
  have e1 : (leafJ k n s).deep = 1 := by simp [leafJ, J.deep, J.deeps]
  have e2 : (leafT k n s).length = 1 := rfl
  exact ⟨v, _, _, N', rfl, h.mono h2.size, leafMay hl, leaf_texts hs hn, by omega, by omega, hN, h1.old o, h2.old o⟩
theorem letter_cut {i : Nat} (h : i < 5) : (⟨#[97, 98, 99, 100, 101]⟩ : ByteArray).extract i (i + 1) = letterAt i := by
  have h5 : i = 0 ∨ i = 1 ∨ i = 2 ∨ i = 3 ∨ i = 4 := by omega
  rcases h5 with rfl | rfl | rfl | rfl | rfl <;> rfl
theorem letter_size (i : Nat) : (letterAt i).size ≤ 1 := Nat.le_refl 1
theorem tail_len (N : List Int) : N.tail.length ≤ N.length := by simp

set_option maxRecDepth 100000 in
set_option maxHeartbeats 4000000 in
theorem value_step (W0 : World) (hT : Tabs W0) (sb : Nat) (hsb : W0.heap.size ≤ sb) (deep : Nat) (hd : deep ≤ 7) (IH : deep < 7 → ∀ (N : List Int) (w : World), N.length ≤ 150 → SeedIs sb w N → Old W0 w → Calls Tryz.prog 28 #[.pointer (some ⟨sb, 0, none⟩), .int .i64 ((deep : Int) + 1)] w (ValueT (deep + 1) sb w N))
    (N : List Int) (w : World) (hN : N.length ≤ 150) (hS : SeedIs sb w N) (hW : Old W0 w) :
    Calls Tryz.prog 28 #[.pointer (some ⟨sb, 0, none⟩), .int .i64 deep] w (ValueT deep sb w N) := by
  have HI := hide IH
  have HT := hide hT
  have HW := hide hW
  have C8 := hide (seed_next 8 sb N w hS (by omega) (by omega))
  have CN := hide (fun (n : Int) (hn : 0 < n) (hn' : n ≤ 1125899906842624) (M : List Int) (w' : World) (h : SeedIs sb w' M) => seed_next n sb M w' h hn hn')
  have hsw := hS.lt
  clear IH hT hW hS
  go_enter Tryz.func28, Tryz.ntmps28
  go_wp2_with fail
  refine C8.out.mono ?_
  rintro e w1 ⟨k0, hk0, rfl, s1, t1⟩
  obtain ⟨M, hM⟩ : ∃ M, Hid (N.tail = M) := ⟨_, hide rfl⟩
  rw [hM.out] at s1
  have hMN : M.length ≤ N.length := by rw [← hM.out]; exact tail_len N
  have S1 := hide s1
  have T1 := hide t1
  obtain ⟨A, c, b1, b2, b3, _⟩ := s1.box
  unfold maxLen at b3
  obtain ⟨L, hL⟩ : ∃ L, Hid (M.length = L) := ⟨_, hide rfl⟩
  rw [hL.out] at b1 b2 hMN
  clear s1 t1 C8
  go_upto_region 2 with fail
  go_cut [25] (fun bv wc => ∃ b : Bool, bv = .bool b ∧ (b = false → deep ≤ 6 ∧ 0 < L) ∧ wc = w1)
  case first =>
    by_cases h6 : 6 < deep
    · have h6' : (6 : Int) < (deep : Int) := by omega
      go_wp2_with fail
      go_meet
      exact ⟨true, rfl, (fun h => by cases h), rfl⟩
    · have h6' : ¬ (6 : Int) < (deep : Int) := by omega
      by_cases hl : L = 0
      · subst hl
        go_wp2_with fail
        go_meet
        exact ⟨true, rfl, (fun h => by cases h), rfl⟩
      · have hl' : ((L : Int) == 0) = false := beq_eq_false_iff_ne.2 (by omega)
        go_wp2_with fail
        go_meet
        exact ⟨false, rfl, (fun _ => by omega), rfl⟩
  case rest =>
    obtain ⟨b, rfl, HB, rfl⟩ := hcut
    go_upto_if 25 with fail
    go_cut [5] (fun kv wd => ∃ K : Nat, kv = .int .i64 K ∧ K < 8 ∧ (5 ≤ K → deep ≤ 6 ∧ 0 < L) ∧ wd = wc)
    case first =>
      cases b
      · go_wp2_with fail
        go_meet
        exact ⟨k0, rfl, by omega, fun _ => HB (by trivial), rfl⟩
      · go_wp2_with fail
        go_meet
        exact ⟨k0 % 5, by go_num, by omega, fun h => by omega, rfl⟩
    case rest =>
      obtain ⟨K, rfl, hK8, hK5, rfl⟩ := hcut
      have hML : M.length ≤ N.length := by rw [hL.out]; exact hMN
      have hMT := Nat.le_trans (tail_len M) hML
      clear b1 b2 b3 HB
      go_upto_region 4 with fail
      go_cut [6] (fun wv wl => ∃ b : Nat, wv = .slice (some ⟨b, 0, none⟩) 10 10 ∧ b ≠ sb ∧ w.heap.size ≤ b ∧ Hid (∀ k : Nat, k < 10 → ∃ s ∈ words, wl.cell? ⟨b, k, none⟩ = some (.string s)) ∧ Hid (SeedIs sb wl M) ∧ Hid (Two sb sb w wl))
      case first =>
        have hcw := S1.out.lt
        have hcs := T1.out.size
        go_wp2_with fail
        go_meet
        refine ⟨_, rfl, by omega, hcs, hide (fun k hk => ?_), hide (S1.out.old (Old.alloc (Old.refl _) _)), hide (T1.out.old (Old.alloc (Old.refl _) _))⟩
        rw [cell_of_heap (heap_alloc_new _ _)]
        have h10 : k = 0 ∨ k = 1 ∨ k = 2 ∨ k = 3 ∨ k = 4 ∨ k = 5 ∨ k = 6 ∨ k = 7 ∨ k = 8 ∨ k = 9 := by omega
        rcases h10 with rfl | rfl | rfl | rfl | rfl | rfl | rfl | rfl | rfl | rfl <;> refine ⟨_, ?_, rfl⟩ <;> simp [words]
      case rest =>
        obtain ⟨bw, rfl, hbw, hbl, WD, S0, T0⟩ := hcut
        clear S1 T1
        have S1 := S0
        have T1 := T0
        clear S0 T0
        by_cases h0 : K = 0
        · subst h0
          go_wp2_with fail
          refine (null_run _).mono ?_
          rintro e w2 ⟨v2, rfl, n2, o2⟩
          go_wp2_with fail
          go_ret
          exact value_leaf_t hd n2 (.inl ⟨.inl rfl, rfl, rfl⟩) (by decide) (by omega) hML S1.out T1.out o2
        by_cases h1 : K = 1
        · subst h1
          go_wp2_with fail
          refine (CN.out 2 (by omega) (by omega) M _ S1.out).mono ?_
          rintro e w2 ⟨k2, hk2, rfl, s2, t2⟩
          have S2 := hide s2
          have T2 := hide (T1.out.trans t2)
          clear s2 t2
          obtain ⟨B, hB⟩ : ∃ B, ((k2 : Int) == 1) = B := ⟨_, rfl⟩
          go_wp2_with fail
          refine (bool_run B _).mono ?_
          rintro e w3 ⟨v3, rfl, n3, o3⟩
          have FIN := hide (value_leaf_t (deep := deep) (N := N) hd n3 (.inl ⟨by cases B <;> simp, rfl, rfl⟩) (by decide) (by omega) hMT S2.out T2.out o3)
          clear n3 o3
          go_wp2_with fail
          go_ret
          exact FIN.out
        by_cases h23 : K = 2 ∨ K = 3
        · have hMTT := Nat.le_trans (tail_len M.tail) hMT
          rcases h23 with rfl | rfl
          all_goals
            go_wp2_with fail
            refine (CN.out 1125899906842624 (by omega) (by omega) M _ S1.out).mono ?_
            rintro e w2 ⟨k1, hk1, rfl, s2, t2⟩
            have S2 := hide s2
            have T2 := hide (T1.out.trans t2)
            clear s2 t2
            obtain ⟨O, hO⟩ : ∃ O : Array Value, Hid (O = #[.int .i64 0, .int .i64 10, .int .i64 (-1), .int .i64 9223372036854775807, .int .i64 (-9223372036854775808), .int .i64 ((k1 : Int) - 562949953421312)]) := ⟨_, hide rfl⟩
            have HX := hide (show ∀ k : Nat, k < 6 → ∃ x, O[k]? = some (.int .i64 x) ∧ -9223372036854775808 ≤ x ∧ x ≤ 9223372036854775807 from fun k hk => by
              rw [hO.out]
              have h6 : k = 0 ∨ k = 1 ∨ k = 2 ∨ k = 3 ∨ k = 4 ∨ k = 5 := by omega
              rcases h6 with rfl | rfl | rfl | rfl | rfl | rfl <;> exact ⟨_, rfl, by omega, by omega⟩)
            have hcw : sb < w2.heap.size := S2.out.lt
            go_wp2_with fail
            rw [← hO.out]
            refine (CN.out 6 (by omega) (by omega) M.tail _ (S2.out.old (Old.alloc (Old.refl _) _))).mono ?_
            rintro e w3 ⟨k2, hk2, rfl, s3, t3⟩
            obtain ⟨x, hx, hx1, hx2⟩ := HX.out k2 (by omega)
            have hcell : w3.cell? ⟨w2.heap.size, k2, none⟩ = some (.int .i64 x) := t3.cell ((cell_of_heap (heap_alloc_new w2 _)).trans hx) (by show w2.heap.size ≠ sb; omega) (by show w2.heap.size ≠ sb; omega)
            have S3 := hide s3
            have T3 := hide (T2.out.trans (Two.after_old (Old.alloc (Old.refl _) _) t3))
            clear s3 t3 hx
            go_wp2_with fail
            refine (num_run x _).mono ?_
            rintro e w4 ⟨v4, rfl, n4, o4⟩
            have FIN := hide (value_leaf_t (deep := deep) (N := N) hd n4 (.inr (.inl ⟨rfl, rfl⟩)) (by decide) ⟨hx1, hx2⟩ hMTT S3.out T3.out o4)
            clear n4 o4 hcell
            go_wp2_with fail
            go_ret
            exact FIN.out
        by_cases h4 : K = 4
        · subst h4
          go_wp2_with fail
          refine (CN.out 10 (by omega) (by omega) M _ S1.out).mono ?_
          rintro e w2 ⟨k2, hk2, rfl, s2, t2⟩
          obtain ⟨s, hs, hc0⟩ := WD.out k2 (by omega)
          have hcell : w2.cell? ⟨bw, k2, none⟩ = some (.string s) := t2.cell hc0 hbw hbw
          have S2 := hide s2
          have T2 := hide (T1.out.trans t2)
          have hz := words_size s hs
          have hv := words_valid s hs
          have E := hide (show strT s = leafT 5 0 s by unfold strT; rw [if_pos hv])
          have HV := hide hv
          have CS := hide (str_run s w2 (by omega) (HT.out.old (Below.trans HW.out (T2.out.below (B := W0.heap.size) HW.out.size hsb hsb))))
          clear s2 t2 hv hs hc0
          go_wp2_with fail
          refine CS.out.mono ?_
          rintro e w3 ⟨v3, rfl, n3, o3⟩
          rw [E.out] at n3
          have FIN := hide (value_leaf_t (deep := deep) (N := N) hd n3 (.inr (.inr ⟨rfl, rfl, HV.out⟩)) hz (by omega) hMT S2.out T2.out o3)
          clear n3 o3
          go_wp2_with fail
          go_ret
          exact FIN.out
        obtain ⟨hd6, hL0⟩ := hK5 (by omega)
        have hk0 : ((K : Int) == 0) = false := beq_eq_false_iff_ne.2 (by omega)
        have hk1 : ((K : Int) == 1) = false := beq_eq_false_iff_ne.2 (by omega)
        have hk2 : ((K : Int) == 2) = false := beq_eq_false_iff_ne.2 (by omega)
        have hk3 : ((K : Int) == 3) = false := beq_eq_false_iff_ne.2 (by omega)
        have hk4 : ((K : Int) == 4) = false := beq_eq_false_iff_ne.2 (by omega)
        have hNM : M.tail.length + 2 ≤ N.length := by
          have h1 := hL.out
          have h2 := hM.out
          rw [← h2] at h1 ⊢
          simp only [List.length_tail] at h1 ⊢
          omega
        have HIV := hide (HI.out (by omega))
        have hsw2 : sb < wc.heap.size := S1.out.lt
        have hwl : w.heap.size ≤ wc.heap.size := T1.out.size
        clear h0 h1 h23 h4 hK5 hMT hML
        go_wp2_with fail
        refine (CN.out 5 (by omega) (by omega) M _ S1.out).mono ?_
        rintro e w2 ⟨i0, hi0, rfl, s2, t2⟩
        have S2 := hide s2
        have T2 := hide t2
        clear s2 t2
        go_wp2_with fail
        go_loopw [7, 8, 9] (fun kv lv iv wr => ∃ (i : Nat) (js : List J) (pl : List (List Nd)) (ks : List ByteArray) (N' : List Int), iv = .int .i64 i ∧ i ≤ 4 ∧ Hid (PartsOwn wc.heap.size wr lv pl) ∧ Hid (TextsOwn wc.heap.size wr kv ks) ∧ Hid (SeedIs sb wr N') ∧ Hid (KidsS deep N.length i js pl ks N'.length) ∧ Hid (Two sb sb wc wr)) (fun _ _ iv _ => (intOf iv).toNat)
        case atStart => exact ⟨i0, [], [], [], M.tail, rfl, by omega, hide (PartsOwn.nil_ _ _), hide (own_nil _ _ _ _), S2, hide (KidsS.zero (by omega) (by omega) hNM), T2⟩
        case round =>
          obtain ⟨i, js, pl, ks, N', rfl, hi4, HP, HK, HS, HKS, HTW⟩ := hrel
          by_cases hpos : 0 < i
          · obtain ⟨i', hi'⟩ : ∃ i', Hid (i = i' + 1) := ⟨i - 1, hide (by omega)⟩
            have OW := hide (show Old W0 wr from Below.trans HW.out ((T1.out.trans HTW.out).below (B := W0.heap.size) HW.out.size hsb hsb))
            have CV := hide (HIV.out N' wr (by have := HKS.out.left; omega) HS.out OW.out)
            go_wp2_with fail
            refine CV.out.mono ?_
            rintro e w3 ⟨v3, t, j, N2, rfl, n3, m3, x3, d3, l3, le3, s3, t3⟩
            obtain ⟨P, hP⟩ : ∃ P, Hid (t.length = P) := ⟨_, hide rfl⟩
            obtain ⟨A3, c3, rfl, q3, r3⟩ := nodes_form n3 hP.out
            unfold maxLen at r3
            have M3 := hide m3
            have X3 := hide x3
            have F3 := hide (And.intro d3 (And.intro l3 le3))
            have N3 := hide (SlT.mono (SlT.old n3 (Old.alloc (Old.refl _) (.cells #[.slice A3 P c3] 22))) HTW.out.size)
            have P3 := hide ((HP.out.two t3 hsw2).old (Old.alloc (Old.refl _) (.cells #[.slice A3 P c3] 22)))
            have K3 := hide (own_old (own_two HK.out t3 hsw2) (Old.alloc (Old.refl _) (.cells #[.slice A3 P c3] 22)))
            have S3 := hide (s3.old (Old.alloc (Old.refl _) (.cells #[.slice A3 P c3] 22)))
            have T3 := hide ((HTW.out.trans t3).old (Old.alloc (Old.refl _) (.cells #[.slice A3 P c3] 22)))
            have hl1 : pl.length + 1 ≤ 4194304 := by have := HKS.out.len; omega
            have hl2 : ks.length + 1 ≤ 4194304 := by have h1 := HKS.out.len; have h2 := HKS.out.klen; omega
            clear n3 m3 x3 d3 l3 le3 s3 t3 CV
            go_upto_region 21 with (at_builtin; refine wpList_plain rfl (fun K hK => ?_); refine step_push_part _ _ _ rfl wc.heap.size _ pl rfl P3.out _ _ (.slice A3 P c3) t rfl (by go_simp) N3.out hl1 T3.out.size ?_; intro v4 w4 own4 kept4; refine hK _ _ ?_; clear hK)
            have P4 := hide own4
            have S4 := hide (S3.out.below kept4.low hsw2)
            have T4 := hide (T3.out.then_below kept4.low)
            have K4 := hide (Kept.own kept4 K3.out (by decide))
            clear own4 kept4 P3 N3 K3
            have hb0 : (0 : Int) ≤ (i : Int) := by omega
            have hb1 : (i : Int) ≤ (i : Int) + 1 := by omega
            have hb2 : (i : Int) + 1 ≤ 5 := by omega
            have hlc := letter_cut (i := i) (by omega)
            have hls := letter_size i
            have hw1 : IntKind.i64.wrap ((i : Int) + 1) = (i : Int) + 1 := IntWalk.i64_in _ (by omega)
            go_region_held3 (fun w' => Two sb sb wc w')
              (first | assumption | (exact (T4.out.old (Old.drew (Old.refl _)))) | (exact Two.old (by assumption) (Old.alloc (Old.refl _) _)) | (exact Two.trans (by assumption) (by assumption)) | (exact Two.then_below (by assumption) (Kept.low (by assumption))))
              (first
                | (go_at_call 45; refine (CN.out 10 (by omega) (by omega) N2 _ (S4.out.old (Old.drew (Old.refl _)))).mono ?_; rintro e w5 ⟨k5, hk5, rfl, s5, t5⟩; obtain ⟨s, hs, hc0⟩ := WD.out k5 (by omega); have hcs : ∀ w', Two sb sb wc w' → w'.cell? ⟨bw, k5, none⟩ = some (.string s) := fun w' h => h.cell hc0 hbw hbw; have z1 := words_size s hs; have z2 : ¬ 9223372036854775807 < s.size + (letterAt i).size := by omega)
                | (refine step_push_text _ _ _ rfl wc.heap.size _ ks rfl (own_old (own_two (own_old K4.out (Old.drew (Old.refl _))) t5 hsw2) (Old.alloc (Old.refl _) _)) _ _ (s ++ letterAt i) rfl (by go_simp) hl2 (Two.size (w := wc) (by assumption)) ?_; intro v6 w6 own6 kept6))
            have T6 := hide (show Two sb sb wc w6 by assumption)
            have P6 := hide ((P4.out.old (Old.drew (Old.refl _))).two t5 hsw2)
            have P7 := hide (PartsOwn.kept (P6.out.old (Old.alloc (Old.refl _) (.cells #[.string (s ++ letterAt i)] 9))) kept6 (by decide) (by decide))
            have S6 := hide (SeedIs.below (s5.old (Old.alloc (Old.refl _) (.cells #[.string (s ++ letterAt i)] 9))) kept6.low hsw2)
            have K6 := hide own6
            have KN := hide (show KidsS deep N.length i' (js ++ [j]) (pl ++ [t]) (ks ++ [s ++ letterAt i]) N2.tail.length by
              have h := HKS.out
              rw [hi'.out] at h ⊢
              exact h.next M3.out X3.out F3.out.1 F3.out.2.1 F3.out.2.2 hs (tail_len N2))
            have hii : ((i : Int) - 1) = (i' : Int) := by have := hi'.out; omega
            have hi4' : i' ≤ 4 := by have := hi'.out; omega
            clear own6 kept6 s5 t5 hs z1 z2 hlc hls hw1
            go_wp2_with fail
            go_roundw
            case rel => exact ⟨i', _, _, _, _, by first | rfl | rw [hii], hi4', P7, K6, S6, KN, T6⟩
            case measure => simp [intOf]; omega
          · have hi0 : i = 0 := by omega
            subst hi0
            have OW := hide (show Old W0 wr from Below.trans HW.out ((T1.out.trans HTW.out).below (B := W0.heap.size) HW.out.size hsb hsb))
            have PA := hide HP.out.is
            have TB := hide (HT.out.old OW.out)
            have XP := hide (fun p hp => (HKS.out.texts p hp).texts)
            by_cases h5 : K = 5
            · subst h5
              obtain ⟨m1, m2, m3, m4, m5⟩ := HKS.out.list hN
              have CL := hide (list_run _ pl _ 0 wr PA.out XP.out TB.out m2)
              have FIN := hide (fun (v : Value) (w' : World) (hv : NodesT wr.heap.size w' v (J.flat (.mk ⟨6, none_, 0, none_⟩ js))) (o : Old wr w') => (⟨v, _, _, _, rfl, hv.mono (Nat.le_trans hwl HTW.out.size), m1, m3, m5, m4, HKS.out.left, HS.out.old o, (T1.out.trans HTW.out).old o⟩ : ValueT deep sb w N (.returned v) w'))
              clear m1 m2 m3 m4 m5
              go_wp2_with fail
              refine CL.out.mono ?_
              rintro e w8 ⟨v8, rfl, n8, o8⟩
              have F8 := hide (FIN.out v8 w8 n8 o8)
              clear n8 o8
              go_wp2_with fail
              go_ret
              exact F8.out
            · have hk5 : ((K : Int) == 5) = false := beq_eq_false_iff_ne.2 (by omega)
              obtain ⟨m1, m2, m3, m4, m5⟩ := HKS.out.obj hN
              have KS5 := hide (show ∀ s ∈ ks, s.size ≤ maxLen from fun s hs => by have := HKS.out.key_size s hs; unfold maxLen; omega)
              have CO := hide (fun (w' : World) (o : Old wr w') (kv : Value) (hk : TextsIs w' kv ks) => obj_run kv _ ks pl _ 0 w' hk KS5.out (PA.out.old o) XP.out (TB.out.old o) m2)
              have FIN := hide (fun (v : Value) (w' : World) (hv : NodesT wr.heap.size w' v (J.flat (.mk ⟨7, none_, 0, none_⟩ (rekeys ks js)))) (o : Old wr w') => (⟨v, _, _, _, rfl, hv.mono (Nat.le_trans hwl HTW.out.size), m1, m3, m5, m4, HKS.out.left, HS.out.old o, (T1.out.trans HTW.out).old o⟩ : ValueT deep sb w N (.returned v) w'))
              clear m1 m2 m3 m4 m5 h5
              go_wp2_with fail
              have C7 := hide (CO.out wr (Old.refl _) _ (TextsOwn.is HK.out))
              refine C7.out.mono ?_
              rintro e w8 ⟨v8, rfl, n8, o8⟩
              have F8 := hide (FIN.out v8 w8 n8 o8)
              clear n8 o8
              go_wp2_with fail
              go_ret
              exact F8.out

theorem value_run_s (W0 : World) (hT : Tabs W0) (sb : Nat) (hsb : W0.heap.size ≤ sb) : ∀ (f deep : Nat), deep + f = 7 → ∀ (N : List Int) (w : World), N.length ≤ 150 → SeedIs sb w N → Old W0 w →
    Calls Tryz.prog 28 #[.pointer (some ⟨sb, 0, none⟩), .int .i64 deep] w (ValueT deep sb w N) := by
  intro f
  induction f with
  | zero => intro deep hd N w hN hS hW; exact value_step W0 hT sb hsb deep (by omega) (fun h => by omega) N w hN hS hW
  | succ f ih =>
    intro deep hd N w hN hS hW
    exact value_step W0 hT sb hsb deep (by omega) (fun _ N w h1 h2 h3 => ih (deep + 1) (by omega) N w h1 h2 h3) N w hN hS hW
end Go.Proofs.YtmolmphbhdbcaaaGreatDoor

/-! ### The statements' own inputs: what is drawn from a seed. -/
namespace Go.Proofs.YtmolmphbhdbcaaaGreatDoor
open Go.RowKit

/-- what is drawn -/
def DrawnT (w : World) (e : Ending) (w' : World) : Prop :=
  ∃ (v : Value) (t : List Nd) (j : J), e = .returned v ∧ NodesT w.heap.size w' v t ∧ May t j ∧ Tiny t ∧ j.deep ≤ 7 ∧ t.length ≤ 301 ∧ Old w w'
theorem two_old {sb : Nat} {w a b : World} (h : Old w a) (k : Two sb sb a b) (hs : w.heap.size ≤ sb) : Old w b :=
  Below.trans h (k.below (B := w.heap.size) h.size hs hs)
theorem drawn_at {w w1 : World} {u : Value} {l : List Int} (h : NumsIs w u l) (o : Old w w1) {sb : Nat} (hs : w.heap.size + 1 = sb) (A : Option Addr) (c : Nat) (hu : u = .slice A l.length c) (hb : w1.cell? ⟨sb, 0, none⟩ = some (.slice A (l.take 150).length c)) (hf : w1.frozen? ⟨sb, 0, none⟩ = false) :
    SeedIs sb w1 (l.take 150) := by
  subst hu
  obtain ⟨A', c', e, h1, h2, h3⟩ := h
  injection e with e1 e2 e3
  subst e1
  subst e3
  refine ⟨⟨A, c, hb, by simp; omega, h2, fun hne => ?_⟩, hf⟩
  have hl : l ≠ [] := by intro h; subst h; simp at hne
  obtain ⟨b, off, rfl, hc⟩ := h3 (by simp [numVals, hl])
  have hb0 : b < w.heap.size := by
    cases l with
    | nil => exact absurd rfl hl
    | cons x xs => exact World.block_lt_of_cell? w _ (hc 0 (.int .i64 x) rfl)
  refine ⟨b, off, rfl, by omega, fun j u hu => o.cell (hc j _ ?_)⟩
  have := List.getElem?_take_of_lt (l := l) (i := j) (j := 150)
  have hj : j < 150 := by
    have := (List.getElem?_eq_some_iff.1 hu).1
    simp at this; omega
  rw [List.getElem?_take_of_lt hj] at hu
  simp [numVals, hu]

set_option maxRecDepth 100000 in
set_option maxHeartbeats 1000000 in
theorem drawn_run (u : Value) (l : List Int) (w : World) (h : NumsIs w u l) (hT : Tabs w) :
    Calls Tryz.prog 10 #[.agg #[u]] w (DrawnT w) := by
  have H := hide h
  have HT := hide hT
  obtain ⟨A, c, rfl, h1, h2, _⟩ := h
  unfold maxLen at h2
  obtain ⟨n, hn⟩ : ∃ n, Hid (l.length = n) := ⟨_, hide rfl⟩
  have AT := hide (fun (w1 : World) (o : Old w w1) => drawn_at (sb := w.heap.size + 1) H.out o rfl A c rfl)
  rw [List.length_take] at AT
  rw [hn.out] at h1 AT
  obtain ⟨m, hm⟩ : ∃ m, Hid (min 150 n = m) := ⟨_, hide rfl⟩
  rw [hm.out] at AT
  have hmn : min (n : Int) 150 = (m : Int) := by have := hm.out; omega
  have hmc : m ≤ c := by have := hm.out; omega
  rw [hn.out]
  have FIN := hide (fun (w1 : World) (o : Old w w1) (s : SeedIs (w.heap.size + 1) w1 (l.take 150)) => value_run_s w HT.out (w.heap.size + 1) (by omega) 6 1 rfl (l.take 150) w1 (by simp; omega) s o)
  clear H HT hT
  go_enter Tryz.func10, Tryz.ntmps10
  go_wp2_with fail
  refine (FIN.out _ ?ho (AT.out _ ?hp ?hb ?hf)).mono ?_
  case ho => exact Old.alloc (Old.alloc (Old.refl _) _) _
  case hp => exact Old.alloc (Old.alloc (Old.refl _) _) _
  case hb => go_simp
  case hf => go_simp
  rintro e w1 ⟨v, t, j, N', rfl, n1, m1, x1, d1, l1, _, s1, t1⟩
  have FI := hide (⟨v, t, j, rfl, n1.mono (by simp only [World.size_alloc]; omega), m1, x1, by omega, by simp at l1; omega, two_old (Old.alloc (Old.alloc (Old.refl _) _) _) t1 (by omega)⟩ : DrawnT w (.returned v) w1)
  clear n1 m1 x1 s1 t1
  go_wp2_with fail
  go_ret
  exact FI.out
end Go.Proofs.YtmolmphbhdbcaaaGreatDoor
