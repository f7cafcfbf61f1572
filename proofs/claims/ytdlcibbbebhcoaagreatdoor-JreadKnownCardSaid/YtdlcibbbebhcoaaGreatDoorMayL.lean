/- What is read may be: plain laws. -/
import Derived.Test.YtdlcibbbebhcoaaGreatDoorRPutL
import Derived.Test.YtdlcibbbebhcoaaGreatDoorJr8
import Derived.Test.YtdlcibbbebhcoaaGreatDoorChk
/-! ### What is read may be: plain laws. -/
/-! ### What is read may be: plain laws. -/
namespace Go.Proofs.YtdlcibbbebhcoaaGreatDoor

theorem rk_ok {k : ByteArray} {j : J} (h : J.Ok vU j) : J.Ok vU (j.rekey k) := by
  cases j with
  | mk hd l =>
    simp only [J.rekey, J.Ok] at h ⊢
    exact h
theorem rk_key (k : ByteArray) (j : J) : (j.rekey k).key = k := by cases j; rfl
theorem rk_deep (k : ByteArray) (j : J) : (j.rekey k).deep = j.deep := by cases j; simp [J.rekey, J.deep]
theorem leafV_ok {c : UInt8} {l r : List UInt8} {j : J} (h : leafV c l = .ok (j, r)) : J.Ok vU j := by
  have one : ∀ (k n : Int) (s : ByteArray), leafOk vU ⟨k, none_, n, s⟩ → J.Ok vU (oneJ k n s) := fun k n s h => by
    unfold oneJ
    simp only [J.Ok]
    exact .inl ⟨h, trivial⟩
  unfold leafV at h
  repeat' split at h
  all_goals first | (cases h; done) | skip
  all_goals (injection h with h; injection h with h1 h2; subst h1 h2; rename_i hw)
  all_goals apply one
  · exact .inl ⟨.inl rfl, rfl, rfl⟩
  · exact .inl ⟨.inr (.inl rfl), rfl, rfl⟩
  · exact .inl ⟨.inr (.inr rfl), rfl, rfl⟩
  · exact .inr (.inr ⟨rfl, rfl, litV_uok hw⟩)
  · exact .inr (.inl ⟨rfl, rfl⟩)
/-- what parts that are read are -/
def PartsOk (obj : Bool) (n d : Nat) (had : List ByteArray) (js : List J) : Prop := J.Oks vU js ∧ n + (J.flats js).length ≤ 4000 ∧ d + J.deeps js ≤ 64 ∧ (obj = false → ∀ j ∈ js, j.key = none_) ∧ (obj = true → keysOk vU had (js.map J.key))
theorem keyV_ok {obj : Bool} {had : List ByteArray} {l r : List UInt8} {k : ByteArray} (h : keyV obj had l = .ok (k, r)) : (obj = false → k = none_) ∧ (obj = true → vU k = true ∧ k ∉ had) := by
  cases obj with
  | false =>
    simp only [keyV, if_true] at h
    injection h with h; injection h with h _; subst h
    exact ⟨fun _ => rfl, fun h => by cases h⟩
  | true =>
    rw [keyM_eq] at h
    unfold keyM at h
    split at h
    · cases h
    rename_i t r1 h1
    split at h
    · cases h
    rename_i hk
    split at h
    · cases h
    injection h with h; injection h with h _; subst h
    exact ⟨fun h => (by cases h), fun _ => ⟨litV_uok h1, fun hm => hk (hasKey_iff.2 hm)⟩⟩
theorem may_both : ∀ f : Nat, (∀ (n d : Nat) (l r : List UInt8) (j : J), pv f n d l = .ok (j, r) → J.Ok vU j ∧ n + j.flat.length ≤ 4000 ∧ d + j.deep ≤ 64) ∧
    ∀ (obj : Bool) (n d : Nat) (had : List ByteArray) (l r : List UInt8) (js : List J), pp f obj n d had l = .ok (js, r) → PartsOk obj n d had js
  | 0 => by
    refine ⟨fun _ _ _ _ _ h => ?_, fun _ _ _ _ _ _ _ h => ?_⟩
    · simp only [pv] at h
      cases h
    · simp only [pp] at h
      cases h
  | f + 1 => by
    obtain ⟨ihv, ihp⟩ := may_both f
    refine ⟨fun n d l r j h => ?_, fun obj n d had l r js h => ?_⟩
    · cases l with
      | nil => simp only [pv] at h; cases h
      | cons c l =>
        simp only [pv] at h
        split at h
        · cases h
        split at h
        · cases h
        rename_i hn
        split at h
        · cases h
        rename_i hd
        split at h
        · split at h
          · injection h with h; injection h with h _; subst h
            refine ⟨?_, by simp [J.flat, J.flats]; omega, by simp [J.deep, J.deeps]; omega⟩
            simp only [J.Ok]
            cases (c == 123)
            · exact .inr (.inl ⟨rfl, ⟨rfl, rfl⟩, trivial, by simp⟩)
            · exact .inr (.inr ⟨rfl, ⟨rfl, rfl⟩, trivial, trivial⟩)
          · split at h
            · cases h
            rename_i js r2 hp
            injection h with h; injection h with h _; subst h
            obtain ⟨p1, p2, p3, p4, p5⟩ := ihp _ _ _ _ _ _ _ hp
            refine ⟨?_, by rw [flat_mk]; simp only [List.length_cons]; omega, by simp only [J.deep]; omega⟩
            simp only [J.Ok]
            cases hc : (c == 123)
            · exact .inr (.inl ⟨rfl, ⟨rfl, rfl⟩, p1, p4 hc⟩)
            · exact .inr (.inr ⟨rfl, ⟨rfl, rfl⟩, p1, p5 hc⟩)
        · have a := leafV_less h
          exact ⟨leafV_ok h, by omega, by omega⟩
    · simp only [pp] at h
      split at h
      · cases h
      rename_i k l1 hk
      split at h
      · cases h
      rename_i j l2 hv
      obtain ⟨v1, v2, v3⟩ := ihv _ _ _ _ _ hv
      obtain ⟨k1, k2⟩ := keyV_ok hk
      split at h
      · cases h
      · injection h with h; injection h with h _; subst h
        refine ⟨⟨rk_ok v1, trivial⟩, by rw [flats_one, rekey_len]; exact v2, by simp only [J.deeps, rk_deep]; omega, fun ho x hx => ?_, fun ho => ?_⟩
        · simp only [List.mem_singleton] at hx
          subst hx
          rw [rk_key]
          exact k1 ho
        · simp only [List.map_cons, List.map_nil, rk_key, keysOk]
          exact ⟨(k2 ho).1, (k2 ho).2, trivial⟩
      · split at h
        · cases h
        rename_i js2 l4 hp
        injection h with h; injection h with h _; subst h
        obtain ⟨p1, p2, p3, p4, p5⟩ := ihp _ _ _ _ _ _ _ hp
        refine ⟨⟨rk_ok v1, p1⟩, by rw [flats_cons, List.length_append, rekey_len]; omega, by simp only [J.deeps, rk_deep]; omega, fun ho x hx => ?_, fun ho => ?_⟩
        · rcases List.mem_cons.1 hx with rfl | hx
          · rw [rk_key]; exact k1 ho
          · exact p4 ho x hx
        · have p6 := p5 ho
          rw [ho] at p6
          simp only [List.map_cons, rk_key, keysOk]
          refine ⟨(k2 ho).1, (k2 ho).2, ?_⟩
          simpa [hadOf] using p6
theorem parseV_may {l : List UInt8} {j : J} (h : parseV l = .ok j) : May j.flat j := by
  unfold parseV at h
  split at h
  · cases h
  split at h
  · cases h
  rename_i j' r hp
  have e : j' = j := by
    split at h
    · injection h
    · cases h
  subst e
  obtain ⟨a, b, c⟩ := (may_both _).1 _ _ _ _ _ hp
  exact ⟨⟨a, pv_key hp, rfl⟩, by omega, by omega⟩
end Go.Proofs.YtdlcibbbebhcoaaGreatDoor

/-! ### What is wrong with a text has a number: plain laws. -/
namespace Go.Proofs.YtdlcibbbebhcoaaGreatDoor

theorem digs1_pos {l : List UInt8} {b : Bad} (h : digs1 l = .error b) : 0 < b.2 := by
  unfold digs1 at h
  split at h
  · injection h with h; subst h; simp
  · cases h
theorem wholeV_pos {l : List UInt8} {b : Bad} (h : wholeV l = .error b) : 0 < b.2 := by
  unfold wholeV at h
  split at h
  · cases h
  · exact digs1_pos h
theorem fracV_pos {l : List UInt8} {b : Bad} (h : fracV l = .error b) : 0 < b.2 := by
  unfold fracV at h
  split at h
  · split at h
    · rename_i h1
      injection h with h; subst h; exact digs1_pos h1
    · cases h
  · cases h
theorem expV_pos {l : List UInt8} {b : Bad} (h : expV l = .error b) : 0 < b.2 := by
  unfold expV at h
  split at h
  · split at h
    · rename_i h1
      injection h with h; subst h; exact digs1_pos h1
    · cases h
  · cases h
theorem numV_pos {l : List UInt8} {b : Bad} (h : numV l = .error b) : 0 < b.2 := by
  unfold numV at h
  split at h
  · rename_i h1
    injection h with h; subst h; exact wholeV_pos h1
  split at h
  · rename_i h1
    injection h with h; subst h; exact fracV_pos h1
  split at h
  · rename_i h1
    injection h with h; subst h; exact expV_pos h1
  split at h
  · injection h with h; subst h; simp
  · cases h
theorem wordV_pos : ∀ {x l : List UInt8} {b : Bad}, wordV x l = .error b → 0 < b.2
  | [], _, _, h => by cases h
  | _ :: _, [], _, h => by
    simp only [wordV] at h
    injection h with h; subst h; simp
  | x :: xs, c :: l, b, h => by
    simp only [wordV] at h
    split at h
    · exact wordV_pos h
    · injection h with h; subst h; simp
theorem litV_pos {l : List UInt8} {b : Bad} (h : litV l = .error b) : 0 < b.2 := by
  cases l with
  | nil => injection h with h; subst h; simp
  | cons c l =>
    simp only [litV] at h
    split at h
    · injection h with h; subst h; simp
    split at h
    · rename_i hu
      injection h with h; subst h
      have := unqV_err hu
      simp only
      omega
    · cases h
theorem leafV_pos {c : UInt8} {l : List UInt8} {b : Bad} (h : leafV c l = .error b) : 0 < b.2 := by
  unfold leafV at h
  repeat' split at h
  all_goals first | (cases h; done) | skip
  all_goals (injection h with h; subst h; rename_i hw)
  all_goals first | exact wordV_pos hw | exact litV_pos hw | exact numV_pos hw
theorem keyV_pos {obj : Bool} {had : List ByteArray} {l : List UInt8} {b : Bad} (h : keyV obj had l = .error b) : 0 < b.2 := by
  cases obj with
  | false =>
    simp only [keyV, if_true] at h
    cases h
  | true =>
    rw [keyM_eq] at h
    unfold keyM at h
    split at h
    · rename_i h1
      injection h with h; subst h; exact litV_pos h1
    split at h
    · injection h with h; subst h; simp
    split at h
    · rename_i h1
      injection h with h; subst h; exact wordV_pos h1
    · cases h
theorem moreV_pos {obj : Bool} {l : List UInt8} {b : Bad} (h : moreV obj l = .error b) : 0 < b.2 := by
  unfold moreV at h
  split at h
  · injection h with h; subst h; simp
  split at h
  · cases h
  split at h
  · cases h
  · injection h with h; subst h; simp
theorem pos_both : ∀ f : Nat, (∀ (n d : Nat) (l : List UInt8) (b : Bad), pv f n d l = .error b → 0 < b.2) ∧
    ∀ (obj : Bool) (n d : Nat) (had : List ByteArray) (l : List UInt8) (b : Bad), pp f obj n d had l = .error b → 0 < b.2
  | 0 => by
    refine ⟨fun _ _ _ _ h => ?_, fun _ _ _ _ _ _ h => ?_⟩
    · simp only [pv] at h
      injection h with h; subst h; simp
    · simp only [pp] at h
      injection h with h; subst h; simp
  | f + 1 => by
    obtain ⟨ihv, ihp⟩ := pos_both f
    refine ⟨fun n d l b h => ?_, fun obj n d had l b h => ?_⟩
    · cases l with
      | nil => simp only [pv] at h; injection h with h; subst h; simp
      | cons c l =>
        simp only [pv] at h
        split at h
        · injection h with h; subst h; simp
        split at h
        · injection h with h; subst h; simp
        split at h
        · injection h with h; subst h; simp
        split at h
        · split at h
          · cases h
          · split at h
            · rename_i hp
              injection h with h; subst h; exact ihp _ _ _ _ _ _ hp
            · cases h
        · exact leafV_pos h
    · simp only [pp] at h
      split at h
      · rename_i h1
        injection h with h; subst h; exact keyV_pos h1
      split at h
      · rename_i h1
        injection h with h; subst h; exact ihv _ _ _ _ h1
      split at h
      · rename_i h1
        injection h with h; subst h; exact moreV_pos h1
      · cases h
      · split at h
        · rename_i h1
          injection h with h; subst h; exact ihp _ _ _ _ _ _ h1
        · cases h
theorem parseV_no {l : List UInt8} {p : Nat} {c : Int} (h : parseV l = .error (p, c)) : 0 < c ∧ p ≤ l.length := by
  unfold parseV at h
  split at h
  · injection h with h; injection h with h1 h2; subst h1 h2
    exact ⟨by decide, Nat.zero_le _⟩
  split at h
  · rename_i q e hq
    injection h with h; injection h with h1 h2; subst h1 h2
    have := (pos_both _).1 _ _ _ _ hq
    exact ⟨this, Nat.sub_le _ _⟩
  split at h
  · cases h
  · injection h with h; injection h with h1 h2; subst h1 h2
    exact ⟨by decide, Nat.sub_le _ _⟩
end Go.Proofs.YtdlcibbbebhcoaaGreatDoor

/-! ### The texts of what is read are no longer than may be: plain laws. -/
namespace Go.Proofs.YtdlcibbbebhcoaaGreatDoor

/-- a node's texts are of so many bytes at most -/
def Short (L : Nat) (t : List Nd) : Prop := ∀ x ∈ t, x.key.size ≤ 4 * L ∧ x.s.size ≤ 4 * L
theorem none_size : none_.size = 0 := rfl
theorem bT_short {l r t : List UInt8} {L : Nat} (h : litV l = .ok (t, r)) (hl : l.length ≤ L) : (bT t).size ≤ 4 * L := by
  have := litV_out h
  rw [bT_size]
  omega
theorem short_rekey {L : Nat} {j : J} {k : ByteArray} (h : Short L j.flat) (hk : k.size ≤ 4 * L) : Short L (j.rekey k).flat := by
  cases j with
  | mk hd l =>
    rw [flat_mk] at h
    simp only [J.rekey, flat_mk]
    intro x hx
    rcases List.mem_cons.1 hx with rfl | hx
    · exact ⟨hk, (h _ (List.mem_cons_self ..)).2⟩
    · exact h x (List.mem_cons_of_mem _ hx)
theorem short_mk {L : Nat} {k : Int} {l : List J} (h : Short L (J.flats l)) : Short L (J.flat (.mk ⟨k, none_, 0, none_⟩ l)) := by
  rw [flat_mk]
  intro x hx
  rcases List.mem_cons.1 hx with rfl | hx
  · exact ⟨by simp only [none_size]; omega, by simp only [none_size]; omega⟩
  · exact h x hx
theorem leafV_short {c : UInt8} {l r : List UInt8} {j : J} {L : Nat} (h : leafV c l = .ok (j, r)) (hl : l.length ≤ L) : Short L j.flat := by
  have one : ∀ (k n : Int) (s : ByteArray), s.size ≤ 4 * L → Short L (oneJ k n s).flat := fun k n s h x hx => by
    unfold oneJ at hx
    rw [flat_mk] at hx
    simp only [J.flats, List.mem_singleton] at hx
    subst hx
    exact ⟨by simp only [none_size]; omega, h⟩
  unfold leafV at h
  repeat' split at h
  all_goals first | (cases h; done) | skip
  all_goals (injection h with h; injection h with h1 h2; subst h1 h2; rename_i hw)
  all_goals apply one
  · rw [none_size]; omega
  · rw [none_size]; omega
  · rw [none_size]; omega
  · exact bT_short hw hl
  · rw [none_size]; omega
theorem keyV_short {obj : Bool} {had : List ByteArray} {l r : List UInt8} {k : ByteArray} {L : Nat} (h : keyV obj had l = .ok (k, r)) (hl : l.length ≤ L) : k.size ≤ 4 * L := by
  cases obj with
  | false =>
    simp only [keyV, if_true] at h
    injection h with h; injection h with h _; subst h
    rw [none_size]; omega
  | true =>
    rw [keyM_eq] at h
    unfold keyM at h
    split at h
    · cases h
    rename_i t r1 h1
    split at h
    · cases h
    split at h
    · cases h
    injection h with h; injection h with h _; subst h
    have := skipB_len l
    exact bT_short h1 (by omega)
theorem short_both : ∀ f : Nat, (∀ (L n d : Nat) (l r : List UInt8) (j : J), pv f n d l = .ok (j, r) → l.length ≤ L → Short L j.flat ∧ r.length ≤ L) ∧
    ∀ (L : Nat) (obj : Bool) (n d : Nat) (had : List ByteArray) (l r : List UInt8) (js : List J), pp f obj n d had l = .ok (js, r) → l.length ≤ L → Short L (J.flats js) ∧ r.length ≤ L
  | 0 => by
    refine ⟨fun _ _ _ _ _ _ h => ?_, fun _ _ _ _ _ _ _ _ h => ?_⟩
    · simp only [pv] at h; cases h
    · simp only [pp] at h; cases h
  | f + 1 => by
    obtain ⟨ihv, ihp⟩ := short_both f
    refine ⟨fun L n d l r j h hl => ?_, fun L obj n d had l r js h hl => ?_⟩
    · cases l with
      | nil => simp only [pv] at h; cases h
      | cons c l =>
        simp only [List.length_cons] at hl
        simp only [pv] at h
        split at h
        · cases h
        split at h
        · cases h
        split at h
        · cases h
        split at h
        · split at h
          · rename_i r1 he
            have := endV_len he
            injection h with h; injection h with h h2; subst h h2
            exact ⟨short_mk (fun x hx => by simp [J.flats] at hx), by omega⟩
          · rename_i r1 he
            have := endV_len he
            split at h
            · cases h
            rename_i js r2 hp
            injection h with h; injection h with h h2; subst h h2
            obtain ⟨p1, p2⟩ := ihp L _ _ _ _ _ _ _ hp (by omega)
            exact ⟨short_mk p1, p2⟩
        · have := (leafV_less h).1
          simp only [List.length_cons] at this
          exact ⟨leafV_short h (by simp only [List.length_cons]; omega), by omega⟩
    · simp only [pp] at h
      split at h
      · cases h
      rename_i k l1 hk
      have a1 := keyV_len hk
      have a2 := skipB_len l1
      split at h
      · cases h
      rename_i j l2 hv
      obtain ⟨v1, v2⟩ := ihv L _ _ _ _ _ hv (by omega)
      have k1 := keyV_short hk hl
      split at h
      · cases h
      · rename_i l3 hm
        have := moreV_less hm
        injection h with h; injection h with h h2; subst h h2
        exact ⟨by rw [flats_one]; exact short_rekey v1 k1, by omega⟩
      · rename_i l3 hm
        have := moreV_less hm
        split at h
        · cases h
        rename_i js2 l4 hp
        injection h with h; injection h with h h2; subst h h2
        obtain ⟨p1, p2⟩ := ihp L _ _ _ _ _ _ _ hp (by omega)
        refine ⟨?_, p2⟩
        rw [flats_cons]
        intro x hx
        rcases List.mem_append.1 hx with hx | hx
        · exact short_rekey v1 k1 x hx
        · exact p1 x hx
theorem may_texts {l : List UInt8} {j : J} (h : parseV l = .ok j) : TextsOk j.flat := by
  unfold parseV at h
  split at h
  · cases h
  rename_i hl
  split at h
  · cases h
  rename_i j' r hp
  have e : j' = j := by
    split at h
    · injection h
    · cases h
  subst e
  have a := skipB_len l
  have b := ((short_both _).1 1048576 _ _ _ _ _ hp (by omega)).1
  intro x hx
  have := b x hx
  unfold maxLen
  exact ⟨by omega, by omega⟩
end Go.Proofs.YtdlcibbbebhcoaaGreatDoor
