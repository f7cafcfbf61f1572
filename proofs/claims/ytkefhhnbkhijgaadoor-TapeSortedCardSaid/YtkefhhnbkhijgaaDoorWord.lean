/- The statements' own inputs: word, unlike. -/
import Derived.Test.YtkefhhnbkhijgaaDoorSeed
namespace Go.Proofs.YtkefhhnbkhijgaaDoor
open Go.RowKit

def words : List ByteArray := [⟨#[]⟩, ⟨#[97]⟩, ⟨#[98]⟩, ⟨#[97, 98]⟩, ⟨#[0]⟩, ⟨#[195, 164]⟩, ⟨#[34]⟩, ⟨#[122]⟩, ⟨#[240, 159, 152, 128]⟩, ⟨#[66]⟩]
theorem words_size : ∀ s ∈ words, s.size ≤ 4 := by decide
theorem words_valid : ∀ s ∈ words, vU s = true := by
  intro s hs
  simp only [words, List.mem_cons, List.not_mem_nil, or_false] at hs
  rcases hs with rfl | rfl | rfl | rfl | rfl | rfl | rfl | rfl | rfl | rfl <;> kernel_rfl
/-- a word, and the letter of a place -/
def letterAt (i : Nat) : ByteArray := ⟨#[(97 + i).toUInt8]⟩
theorem word_letters : (words.all fun s => (List.range 5).all fun i => vU (s ++ letterAt i)) = true := by kernel_rfl
theorem word_letter : ∀ s ∈ words, ∀ i : Nat, i < 5 → vU (s ++ letterAt i) = true := by
  intro s hs i hi
  exact List.all_eq_true.1 (List.all_eq_true.1 word_letters s hs) i (List.mem_range.2 hi)
theorem letter_apart {s t : ByteArray} {i j : Nat} (hi : i < 5) (hj : j < 5) (h : s ++ letterAt i = t ++ letterAt j) : i = j := by
  have e := congrArg (fun x : ByteArray => x.data.toList.getLast?) h
  simp only [ByteArray.data_append, letterAt, Array.toList_append] at e
  simp only [List.getLast?_append, List.getLast?_singleton, Option.some_or, Option.some.injEq] at e
  have h5 : i = 0 ∨ i = 1 ∨ i = 2 ∨ i = 3 ∨ i = 4 := by omega
  have h6 : j = 0 ∨ j = 1 ∨ j = 2 ∨ j = 3 ∨ j = 4 := by omega
  rcases h5 with rfl | rfl | rfl | rfl | rfl <;> rcases h6 with rfl | rfl | rfl | rfl | rfl <;> first | rfl | (revert e; decide)
def WordT (sb : Nat) (w : World) (N : List Int) (e : Ending) (w' : World) : Prop := ∃ s ∈ words, e = .returned (.string s) ∧ SeedIs sb w' N.tail ∧ Two sb sb w w'
theorem SeedIs.lt {sb : Nat} {w : World} {N : List Int} (h : SeedIs sb w N) : sb < w.heap.size := by
  obtain ⟨⟨A, c, h1, _⟩, _⟩ := h
  exact World.block_lt_of_cell? w _ h1
theorem Two.after_old {sb : Nat} {a b c : World} (h : Old a b) (k : Two sb sb b c) : Two sb sb a c := ((Two.refl sb sb a).old h).trans k

set_option maxRecDepth 100000 in
set_option maxHeartbeats 1000000 in
theorem word_run (sb : Nat) (N : List Int) (w : World) (h : SeedIs sb w N) :
    Calls Tryd.prog 68 #[.pointer (some ⟨sb, 0, none⟩)] w (WordT sb w N) := by
  have CN := hide (fun (o : Obj) => next_run 10 sb N (w.alloc o) (h.old (Old.alloc (Old.refl _) _)) (by omega) (by omega))
  have hlt := h.lt
  go_enter Tryd.func68, Tryd.ntmps68
  go_wp2_with fail
  refine (CN.out _).mono ?_
  rintro e w2 ⟨k, hk, rfl, s2, t2⟩
  have hk10 : k < 10 := by omega
  have hcell : w2.cell? ⟨w.heap.size, k, none⟩ = some (.string (words[k]'hk10)) := by
    refine t2.cell ((cell_of_heap (heap_alloc_new w _)).trans ?_) (by show w.heap.size ≠ sb; omega) (by show w.heap.size ≠ sb; omega)
    have e : (#[Value.string ⟨#[]⟩, .string ⟨#[97]⟩, .string ⟨#[98]⟩, .string ⟨#[97, 98]⟩, .string ⟨#[0]⟩, .string ⟨#[195, 164]⟩, .string ⟨#[34]⟩, .string ⟨#[122]⟩, .string ⟨#[240, 159, 152, 128]⟩, .string ⟨#[66]⟩] : Array Value) = (words.map Value.string).toArray := rfl
    rw [e, List.getElem?_toArray, List.getElem?_map, List.getElem?_eq_getElem hk10]
    rfl
  have HM := hide (List.getElem_mem (l := words) hk10)
  have S2 := hide s2
  have T2 := hide (Two.after_old (Old.alloc (Old.refl _) _) t2)
  obtain ⟨s, hs⟩ : ∃ s, Hid (words[k]'hk10 = s) := ⟨_, hide rfl⟩
  rw [hs.out] at hcell HM
  clear s2 t2
  go_wp2_with fail
  go_ret
  exact ⟨s, HM.out, rfl, S2.out, T2.out⟩

set_option maxRecDepth 100000 in
set_option maxHeartbeats 1000000 in
theorem unlike_run (v : Value) (ks : List ByteArray) (w : World) (h : TextsIs w v ks) (hn : ks.length ≤ 4) (hd : ks.Nodup) :
    Calls Tryd.prog 69 #[v] w fun e w' => ∃ v', e = .returned v' ∧ TextsOwn w.heap.size w' v' ks ∧ Old w w' := by
  have HD := hide hd
  obtain ⟨A, ca, rfl, hla, hma, hc⟩ := h.texts
  unfold maxLen at hma
  have HC := hide hc
  clear h hc hd
  go_enter Tryd.func69, Tryd.ntmps69
  go_wp2_with fail
  go_loopw [3, 4] (fun o i wr => ∃ k : Nat, i = .int .i64 k ∧ k ≤ ks.length ∧ Hid (TextsOwn w.heap.size wr o (ks.take k)) ∧ Hid (Old w wr)) (fun _ i _ => ks.length - (intOf i).toNat)
  case atStart => exact ⟨0, rfl, by omega, hide (own_nil _ _ _ _), hide (Old.refl _)⟩
  case round =>
    obtain ⟨k, rfl, hk, HT, HO⟩ := hrel
    by_cases hlt : k < ks.length
    · obtain ⟨b1, f1, rfl, hc1⟩ := HC.out.resolve_left (by omega)
      have x0 := HO.out.cell (hc1 k hlt)
      have htk : (ks.take k).length = k := by simp; omega
      obtain ⟨A3, c3, rfl, q3, r3⟩ : ∃ A cap, u3 = .slice A k cap ∧ k ≤ cap ∧ cap ≤ maxLen := by
        obtain ⟨A, cap, rfl, h1, h2, _⟩ := SlT.of_own HT.out
        exact ⟨A, cap, by rw [htk], by omega, h2⟩
      unfold maxLen at r3
      obtain ⟨s, hs⟩ : ∃ s, Hid (ks[k] = s) := ⟨_, hide rfl⟩
      rw [hs.out] at x0
      have HTE := hide (TextsOwn.is HT.out).texts
      have HNE := hide (show ∀ n : Nat, (h : n < (ks.take k).length) → (ks.take k)[n] ≠ s from fun n h e => by
        rw [← hs.out] at e
        have h1 : n < k := by omega
        rw [List.getElem_take] at e
        have := (List.getElem_inj HD.out).1 e
        omega)
      obtain ⟨w5, hw5⟩ : ∃ x, x = wr := ⟨_, rfl⟩
      subst hw5
      clear hc1
      go_wp2_with fail
      go_loopw [5, 6] (fun kv i wz => ∃ n : Nat, i = .int .i64 n ∧ kv = .string s ∧ n ≤ k ∧ Hid (Old w5 wz)) (fun _ i _ => k - (intOf i).toNat)
      case atStart => exact ⟨0, rfl, rfl, by omega, hide (Old.refl _)⟩
      case round =>
        obtain ⟨n, rfl, rfl, hnk, HZ⟩ := hrel
        by_cases hlt2 : n < k
        · have hnt : n < (ks.take k).length := by omega
          obtain ⟨A4, c4, he, _, _, h4⟩ := HTE.out
          injection he with e1 e2 e3
          subst e1 e3
          obtain ⟨b4, f4, rfl, hc4⟩ := h4.resolve_left (by omega)
          have y0 := HZ.out.cell (hc4 n hnt)
          have hne := HNE.out n hnt
          obtain ⟨s1, hs1⟩ : ∃ s1, Hid ((ks.take k)[n] = s1) := ⟨_, hide rfl⟩
          rw [hs1.out] at y0 hne
          have hkt1 : ¬ s1.toList = s.toList := fun e => hne (bytes_ext e)
          have hkt : (s1.toList == s.toList) = false := beq_eq_false_iff_ne.2 hkt1
          clear h4 hc4 hne hkt1 e2
          go_wp2_with fail
          go_roundw
          case rel => exact ⟨n + 1, by go_num, rfl, by omega, HZ⟩
          case measure => simp [intOf]; omega
        · have HN := hide (show ks.take (k + 1) = ks.take k ++ [s] by rw [List.take_succ_eq_append_getElem hlt, hs.out])
          have hl1 : (ks.take k).length + 1 ≤ 4194304 := by omega
          have OZ := hide (Old.trans HO.out HZ.out)
          go_wp2_with (at_builtin; refine wpList_plain rfl (fun K hK => ?_); refine step_push_text _ _ _ rfl w.heap.size _ (ks.take k) rfl (own_old HT.out (Old.trans HZ.out (Old.alloc (Old.refl _) _))) _ _ s rfl (by go_simp) hl1 (OZ.out.alloc _).size ?_; intro v8 w8 own8 kept8; refine hK _ _ ?_; clear hK)
          have O8 := hide (kept8.old (OZ.out.alloc _) (Nat.le_refl _))
          have T8 := hide own8
          clear own8 kept8
          go_roundw
          case rel => exact ⟨k + 1, by go_num, by omega, hide (by rw [HN.out]; exact T8.out), O8⟩
          case measure => simp [intOf]; omega
    · go_wp2_with fail
      go_ret
      exact ⟨_, rfl, by have h := HT.out; rwa [List.take_of_length_le (by omega)] at h, HO.out⟩
end Go.Proofs.YtkefhhnbkhijgaaDoor
