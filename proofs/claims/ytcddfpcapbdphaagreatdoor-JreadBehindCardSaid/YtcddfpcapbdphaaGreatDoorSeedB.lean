/- Texts of values with commas between them, in brackets: plain laws. -/
import Derived.Test.YtcddfpcapbdphaaGreatDoorLocV
import Derived.Test.YtcddfpcapbdphaaGreatDoorMayL
import Derived.Test.YtcddfpcapbdphaaGreatDoorObj
import Derived.Lib.ItoaLen
import Derived.Test.YtcddfpcapbdphaaGreatDoorQuoteL
/-! ### Texts of values with commas between them, in brackets: plain laws. -/
/-! ### Texts of values with commas between them, in brackets: plain laws. -/
namespace Go.Proofs.YtcddfpcapbdphaaGreatDoor

theorem skip_all {r t : List UInt8} (h : skipB r = []) : skipB (r ++ t) = skipB t := by
  induction r with
  | nil => rfl
  | cons c r ih =>
    simp only [skipB, List.cons_append] at h ⊢
    split
    · rename_i hb
      rw [if_pos hb] at h
      exact ih h
    · rename_i hb
      rw [if_neg hb] at h
      cases h
/-- a text that is a value, among others -/
theorem parse_in {l t : List UInt8} {j : J} {n d g : Nat} (h : parseV l = .ok j) (ht : Free t) (hn : n + j.flat.length ≤ 4000) (hd : d + j.deep ≤ 64) :
    ∃ r, skipB r = [] ∧ skipB l ≠ [] ∧ pv (fuelOf l + g) n d (skipB l ++ t) = .ok (j, r ++ t) := by
  unfold parseV at h
  split at h
  · cases h
  split at h
  · cases h
  rename_i j' r hp
  split at h
  · rename_i hr
    injection h with h
    subst h
    refine ⟨r, hr, ?_, (loc_both _).1 g _ _ n d _ _ t _ hp ht hn hd⟩
    intro e
    rw [e] at hp
    unfold fuelOf at hp
    simp only [pv] at hp
    cases hp
  · cases h
/-- texts with commas between them, and what stands behind them -/
def joinL (e : List UInt8) : List (List UInt8) → List UInt8
  | [] => e
  | [l] => l ++ e
  | l :: m :: ls => l ++ 44 :: joinL e (m :: ls)
theorem pp_join (t0 : List UInt8) : ∀ (ps : List (List UInt8 × J)), ps ≠ [] → (∀ p ∈ ps, parseV p.1 = .ok p.2) → ∀ f n d : Nat, 2 * (joinL [93] (ps.map (·.1))).length + 1 ≤ f → n + (J.flats (ps.map (·.2))).length ≤ 4000 → d + J.deeps (ps.map (·.2)) ≤ 64 →
    pp f false n d [] (joinL (93 :: t0) (ps.map (·.1))) = .ok (ps.map fun p => p.2.rekey none_, t0)
  | [], h, _, _, _, _, _, _, _ => absurd rfl h
  | [p], _, hp, f, n, d, hf, hn, hd => by
    simp only [List.map_cons, List.map_nil, joinL] at hf ⊢
    simp only [List.map_cons, List.map_nil, flats_one] at hn
    simp only [List.map_cons, List.map_nil, J.deeps] at hd
    simp only [List.length_append, List.length_cons, List.length_nil] at hf
    obtain ⟨f, rfl⟩ : ∃ k, f = k + 1 := ⟨f - 1, by omega⟩
    obtain ⟨r, h1, h2, h3⟩ := parse_in (t := 93 :: t0) (n := n) (d := d) (g := f - fuelOf p.1) (hp p (List.mem_cons_self ..)) ⟨by decide, by decide, by decide, by decide⟩ hn (by omega)
    rw [show fuelOf p.1 + (f - fuelOf p.1) = f by unfold fuelOf; omega] at h3
    simp only [pp, keyV]
    rw [if_pos trivial]
    simp only
    rw [skip_loc h2, h3]
    simp only
    have hm : moreV false (r ++ 93 :: t0) = .ok (false, t0) := by
      unfold moreV
      rw [skip_all h1]
      rfl
    rw [hm]
  | p :: q :: ps, _, hp, f, n, d, hf, hn, hd => by
    have ih := pp_join t0 (q :: ps) (by simp) (fun x hx => hp x (List.mem_cons_of_mem _ hx))
    simp only [List.map_cons, joinL] at hf ih ⊢
    simp only [List.map_cons, flats_cons, List.length_append] at hn ih
    simp only [List.map_cons, J.deeps] at hd ih
    simp only [List.length_append, List.length_cons] at hf
    obtain ⟨f, rfl⟩ : ∃ k, f = k + 1 := ⟨f - 1, by omega⟩
    obtain ⟨r, h1, h2, h3⟩ := parse_in (t := 44 :: joinL (93 :: t0) (q.1 :: ps.map (·.1))) (n := n) (d := d) (g := f - fuelOf p.1) (hp p (List.mem_cons_self ..)) ⟨by decide, by decide, by decide, by decide⟩ (by omega) (by omega)
    rw [show fuelOf p.1 + (f - fuelOf p.1) = f by unfold fuelOf; omega] at h3
    simp only [pp, keyV]
    rw [if_pos trivial]
    simp only
    rw [skip_loc h2, h3]
    simp only
    have hm : moreV false (r ++ 44 :: joinL (93 :: t0) (q.1 :: ps.map (·.1))) = .ok (true, joinL (93 :: t0) (q.1 :: ps.map (·.1))) := by
      unfold moreV
      rw [skip_all h1]
      rfl
    rw [hm]
    simp only [hadOf, Bool.false_eq_true, if_false]
    rw [ih f (n + p.2.flat.length) d (by omega) (by omega) (by omega)]
/-! ### how many nodes a text may have, and how deep it may be -/
theorem endV_yes {obj : Bool} {l r : List UInt8} (h : endV obj l = (true, r)) : r.length + 1 ≤ l.length := by
  unfold endV at h
  have h1 := opt1_yes h
  have h2 := skipB_len l
  rw [h1] at h2
  simpa using h2
theorem size_both : ∀ f : Nat, (∀ (n d : Nat) (l r : List UInt8) (j : J), pv f n d l = .ok (j, r) → j.flat.length + r.length ≤ l.length ∧ 2 * j.deep + r.length ≤ l.length + 1) ∧
    ∀ (obj : Bool) (n d : Nat) (had : List ByteArray) (l r : List UInt8) (js : List J), pp f obj n d had l = .ok (js, r) → (J.flats js).length + r.length + 1 ≤ l.length ∧ 2 * J.deeps js + r.length ≤ l.length
  | 0 => by
    refine ⟨fun _ _ _ _ _ h => ?_, fun _ _ _ _ _ _ _ h => ?_⟩
    · simp only [pv] at h
      cases h
    · simp only [pp] at h
      cases h
  | f + 1 => by
    obtain ⟨ihv, ihp⟩ := size_both f
    refine ⟨fun n d l r j h => ?_, fun obj n d had l r js h => ?_⟩
    · cases l with
      | nil => simp only [pv] at h; cases h
      | cons c l =>
        simp only [pv] at h
        split at h
        · cases h
        split at h
        · cases h
        split at h
        · cases h
        split at h
        · split at h
          · rename_i r1 he
            injection h with h; injection h with h h'; subst h h'
            have := endV_yes he
            simp only [J.flat, J.flats, J.deep, J.deeps, List.length_cons, List.length_nil]
            omega
          · rename_i r1 he
            split at h
            · cases h
            rename_i js r2 hp
            injection h with h; injection h with h h'; subst h h'
            obtain ⟨p1, p2⟩ := ihp _ _ _ _ _ _ _ hp
            have := endV_len he
            rw [flat_mk]
            simp only [J.deep, List.length_cons]
            omega
        · have a := leafV_less h
          omega
    · simp only [pp] at h
      split at h
      · cases h
      rename_i k l1 hk
      split at h
      · cases h
      rename_i j l2 hv
      have a1 := ihv _ _ _ _ _ hv
      have a2 := keyV_len hk
      have a3 := skipB_len l1
      split at h
      · cases h
      · rename_i l3 hm
        have a4 := moreV_less hm
        injection h with h; injection h with h h'; subst h h'
        rw [flats_one, rekey_len]
        simp only [J.deeps, rk_deep]
        omega
      · rename_i l3 hm
        have a4 := moreV_less hm
        split at h
        · cases h
        rename_i js2 l4 hp
        injection h with h; injection h with h h'; subst h h'
        have a5 := ihp _ _ _ _ _ _ _ hp
        rw [flats_cons, List.length_append, rekey_len]
        simp only [J.deeps, rk_deep]
        omega
theorem parseV_size {l : List UInt8} {j : J} (h : parseV l = .ok j) : j.flat.length ≤ l.length ∧ 2 * j.deep ≤ l.length + 1 := by
  unfold parseV at h
  split at h
  · cases h
  split at h
  · cases h
  rename_i j' r hp
  have a := (size_both _).1 _ _ _ _ _ hp
  have b := skipB_len l
  split at h
  · injection h with h
    subst h
    omega
  · cases h

/-! ### objects -/
/-- a text that is a key and its colon -/
def KeyText (kt k : List UInt8) : Prop := ∀ (had : List ByteArray) (r : List UInt8), bT k ∉ had → keyV true had (kt ++ r) = .ok (bT k, r)
theorem bT_inj {a b : List UInt8} (h : bT a = bT b) : a = b := by
  have h1 := congrArg (fun x : ByteArray => x.data.toList) h
  simpa [bT] using h1
/-- a member: the text of its key, what that says, its value's text, and what that says -/
structure Mem where
  kt : List UInt8
  k : List UInt8
  l : List UInt8
  j : J
def Mem.key (p : Mem) : ByteArray := bT p.k
def Mem.piece (p : Mem) : List UInt8 := p.kt ++ p.l
structure Mem.Ok (p : Mem) : Prop where
  val : parseV p.l = .ok p.j
  key : KeyText p.kt p.k
theorem KeyText.ne {kt k : List UInt8} (h : KeyText kt k) (r : List UInt8) : ∃ x, skipB (kt ++ r) = 34 :: x := by
  have h1 := h [] r (by simp)
  unfold keyV at h1
  rw [if_neg (by decide)] at h1
  cases hs : skipB (kt ++ r) with
  | nil => rw [hs] at h1; cases h1
  | cons c x =>
    rw [hs] at h1
    unfold litV at h1
    simp only at h1
    by_cases hc : c = 34
    · exact ⟨x, by rw [hc]⟩
    · rw [if_pos hc] at h1; cases h1
theorem pp_joinM (t0 : List UInt8) : ∀ (ps : List Mem) (had : List ByteArray), ps ≠ [] → (∀ p ∈ ps, p.Ok ∧ p.key ∉ had) → (ps.map Mem.k).Nodup → ∀ f n d : Nat, 2 * (joinL [125] (ps.map Mem.piece)).length + 1 ≤ f → n + (J.flats (ps.map Mem.j)).length ≤ 4000 → d + J.deeps (ps.map Mem.j) ≤ 64 →
    pp f true n d had (joinL (125 :: t0) (ps.map Mem.piece)) = .ok (ps.map fun p => p.j.rekey p.key, t0)
  | [], _, h, _, _, _, _, _, _, _, _ => absurd rfl h
  | [p], had, _, hp, _, f, n, d, hf, hn, hd => by
    simp only [List.map_cons, List.map_nil, joinL] at hf ⊢
    simp only [List.map_cons, List.map_nil, flats_one] at hn
    simp only [List.map_cons, List.map_nil, J.deeps] at hd
    simp only [List.length_append, List.length_cons, List.length_nil, Mem.piece] at hf
    obtain ⟨f, rfl⟩ : ∃ k, f = k + 1 := ⟨f - 1, by omega⟩
    obtain ⟨⟨q1, q2⟩, q3⟩ := hp p (List.mem_cons_self ..)
    obtain ⟨r, h1, h2, h3⟩ := parse_in (t := 125 :: t0) (n := n) (d := d) (g := f - fuelOf p.l) q1 ⟨by decide, by decide, by decide, by decide⟩ hn (by omega)
    rw [show fuelOf p.l + (f - fuelOf p.l) = f by unfold fuelOf; omega] at h3
    simp only [pp]
    rw [show Mem.piece p ++ 125 :: t0 = p.kt ++ (p.l ++ 125 :: t0) by unfold Mem.piece; rw [List.append_assoc], q2 had _ q3]
    simp only
    rw [skip_loc h2, h3]
    simp only
    have hm : moreV true (r ++ 125 :: t0) = .ok (false, t0) := by
      unfold moreV
      rw [skip_all h1]
      rfl
    rw [hm]
    rfl
  | p :: q :: ps, had, _, hp, hnd, f, n, d, hf, hn, hd => by
    obtain ⟨⟨q1, q2⟩, q3⟩ := hp p (List.mem_cons_self ..)
    have hnd2 := (List.nodup_cons.1 hnd)
    have ih := pp_joinM t0 (q :: ps) (had ++ [p.key]) (by simp) (fun x hx => ⟨(hp x (List.mem_cons_of_mem _ hx)).1, fun hm => by
      rcases List.mem_append.1 hm with hm | hm
      · exact (hp x (List.mem_cons_of_mem _ hx)).2 hm
      · have e := bT_inj (List.mem_singleton.1 hm)
        exact hnd2.1 (by rw [← e]; exact List.mem_map.2 ⟨x, hx, rfl⟩)⟩) hnd2.2
    simp only [List.map_cons, joinL] at hf ih ⊢
    simp only [List.map_cons, flats_cons, List.length_append] at hn ih
    simp only [List.map_cons, J.deeps] at hd ih
    simp only [List.length_append, List.length_cons] at hf
    have hpl : (Mem.piece p).length = p.kt.length + p.l.length := List.length_append
    rw [hpl] at hf
    obtain ⟨f, rfl⟩ : ∃ k, f = k + 1 := ⟨f - 1, by omega⟩
    obtain ⟨r, h1, h2, h3⟩ := parse_in (t := 44 :: joinL (125 :: t0) (Mem.piece q :: ps.map Mem.piece)) (n := n) (d := d) (g := f - fuelOf p.l) q1 ⟨by decide, by decide, by decide, by decide⟩ (by omega) (by omega)
    rw [show fuelOf p.l + (f - fuelOf p.l) = f by unfold fuelOf; omega] at h3
    simp only [pp]
    rw [show Mem.piece p ++ 44 :: joinL (125 :: t0) (Mem.piece q :: ps.map Mem.piece) = p.kt ++ (p.l ++ 44 :: joinL (125 :: t0) (Mem.piece q :: ps.map Mem.piece)) by rw [show Mem.piece p = p.kt ++ p.l from rfl, List.append_assoc], q2 had _ q3]
    simp only
    rw [skip_loc h2, h3]
    simp only
    have hm : moreV true (r ++ 44 :: joinL (125 :: t0) (Mem.piece q :: ps.map Mem.piece)) = .ok (true, joinL (125 :: t0) (Mem.piece q :: ps.map Mem.piece)) := by
      unfold moreV
      rw [skip_all h1]
      rfl
    rw [hm]
    simp only [hadOf, if_true]
    rw [show had ++ [bT p.k] = had ++ [p.key] from rfl, ih f (n + p.j.flat.length) d (by omega) (by omega) (by omega)]
    rfl

/-! ### the whole texts -/
theorem pp_skip (f : Nat) (obj : Bool) (n d : Nat) (had : List ByteArray) (l : List UInt8) : pp (f + 1) obj n d had (skipB l) = pp (f + 1) obj n d had l := by
  cases obj with
  | false => simp only [pp, keyV, if_true, skipB_skip]
  | true =>
    have h : keyV true had (skipB l) = keyV true had l := by
      unfold keyV
      rw [if_neg (by decide), if_neg (by decide), skipB_skip]
    rw [pp, pp, h]
theorem begins {l : List UInt8} {j : J} (h : parseV l = .ok j) : ∃ c r, skipB l = c :: r ∧ begB c = true := by
  unfold parseV at h
  split at h
  · cases h
  split at h
  · cases h
  rename_i hp
  unfold fuelOf at hp
  cases hs : skipB l with
  | nil => rw [hs] at hp; simp only [pv] at hp; cases hp
  | cons c r =>
    refine ⟨c, r, rfl, ?_⟩
    rw [hs] at hp
    simp only [pv] at hp
    split at hp
    · cases hp
    rename_i hb
    simpa using hb
theorem join_skip {e : List UInt8} {l : List UInt8} {ls : List (List UInt8)} (h : skipB l ≠ []) : ∃ t, skipB (joinL e (l :: ls)) = skipB l ++ t := by
  cases ls with
  | nil => exact ⟨e, by rw [joinL, skip_loc h]⟩
  | cons m ls => exact ⟨_, by rw [joinL, skip_loc h]⟩
theorem pv_list (t0 : List UInt8) (ps : List (List UInt8 × J)) (hp : ∀ p ∈ ps, parseV p.1 = .ok p.2) (f n d : Nat) (hf : 2 * (joinL [93] (ps.map (·.1))).length + 2 ≤ f) (hn : n + 1 + (J.flats (ps.map (·.2))).length ≤ 4000) (hd : d + 1 + J.deeps (ps.map (·.2)) ≤ 64) :
    pv f n d (91 :: joinL (93 :: t0) (ps.map (·.1))) = .ok (.mk ⟨6, none_, 0, none_⟩ (ps.map fun p => p.2.rekey none_), t0) := by
  obtain ⟨f, rfl⟩ : ∃ k, f = k + 1 + 1 := ⟨f - 2, by omega⟩
  rw [pv]
  rw [if_neg (by decide), if_neg (by omega), if_neg (by omega), if_pos (.inl rfl), show ((91 : UInt8) == 123) = false from by decide]
  cases ps with
  | nil => rfl
  | cons p ps =>
    obtain ⟨c, r, h1, h2⟩ := begins (hp p (List.mem_cons_self ..))
    obtain ⟨t, h3⟩ := join_skip (e := 93 :: t0) (ls := ps.map (·.1)) (show skipB p.1 ≠ [] by rw [h1]; simp)
    have hc : c ≠ 93 := by rintro rfl; exact absurd h2 (by decide)
    have he : endV false (joinL (93 :: t0) ((p :: ps).map (·.1))) = (false, skipB (joinL (93 :: t0) ((p :: ps).map (·.1)))) := by
      unfold endV
      simp only [List.map_cons]
      rw [h3, h1]
      have hc2 : c ≠ lastOf false := hc
      simp only [List.cons_append, opt1]
      exact if_neg hc2
    rw [he]
    simp only
    rw [pp_skip, pp_join t0 (p :: ps) (by simp) hp _ (n + 1) (d + 1) (by omega) hn hd]
    rfl
theorem pv_obj (t0 : List UInt8) (ps : List Mem) (hp : ∀ p ∈ ps, p.Ok) (hk : (ps.map Mem.k).Nodup) (f n d : Nat) (hf : 2 * (joinL [125] (ps.map Mem.piece)).length + 2 ≤ f) (hn : n + 1 + (J.flats (ps.map Mem.j)).length ≤ 4000) (hd : d + 1 + J.deeps (ps.map Mem.j) ≤ 64) :
    pv f n d (123 :: joinL (125 :: t0) (ps.map Mem.piece)) = .ok (.mk ⟨7, none_, 0, none_⟩ (ps.map fun p => p.j.rekey p.key), t0) := by
  obtain ⟨f, rfl⟩ : ∃ k, f = k + 1 + 1 := ⟨f - 2, by omega⟩
  rw [pv]
  rw [if_neg (by decide), if_neg (by omega), if_neg (by omega), if_pos (.inr rfl), show ((123 : UInt8) == 123) = true from by decide]
  cases ps with
  | nil => rfl
  | cons p ps =>
    have he : endV true (joinL (125 :: t0) ((p :: ps).map Mem.piece)) = (false, skipB (joinL (125 :: t0) ((p :: ps).map Mem.piece))) := by
      obtain ⟨t, ht⟩ : ∃ t, joinL (125 :: t0) ((p :: ps).map Mem.piece) = p.kt ++ t := by
        cases ps with
        | nil => exact ⟨p.l ++ 125 :: t0, by simp [joinL, Mem.piece]⟩
        | cons q ps => exact ⟨p.l ++ 44 :: joinL (125 :: t0) ((q :: ps).map Mem.piece), by simp [joinL, Mem.piece]⟩
      obtain ⟨x, hx⟩ := (hp p (List.mem_cons_self ..)).key.ne t
      unfold endV
      rw [ht, hx]
      rfl
    rw [he]
    simp only
    rw [pp_skip, pp_joinM t0 (p :: ps) [] (by simp) (fun x hx => ⟨hp x hx, by simp⟩) hk _ (n + 1) (d + 1) (by omega) hn hd]
    rfl
theorem parse_of_pv {l : List UInt8} {j : J} (h : l.length ≤ 1048576) (hs : skipB l = l) (hp : pv (fuelOf l) 0 0 l = .ok (j, [])) : parseV l = .ok j := by
  unfold parseV
  rw [if_neg (by omega), hs, hp]
  rfl
theorem parse_list (ps : List (List UInt8 × J)) (hp : ∀ p ∈ ps, parseV p.1 = .ok p.2) (hl : (joinL [93] (ps.map (·.1))).length ≤ 1048575) (hn : 1 + (J.flats (ps.map (·.2))).length ≤ 4000) (hd : 1 + J.deeps (ps.map (·.2)) ≤ 64) :
    parseV (91 :: joinL [93] (ps.map (·.1))) = .ok (.mk ⟨6, none_, 0, none_⟩ (ps.map fun p => p.2.rekey none_)) :=
  parse_of_pv (by simp only [List.length_cons]; omega) rfl (pv_list [] ps hp _ 0 0 (by unfold fuelOf; simp only [List.length_cons]; omega) (by omega) (by omega))
theorem parse_obj (ps : List Mem) (hp : ∀ p ∈ ps, p.Ok) (hk : (ps.map Mem.k).Nodup) (hl : (joinL [125] (ps.map Mem.piece)).length ≤ 1048575) (hn : 1 + (J.flats (ps.map Mem.j)).length ≤ 4000) (hd : 1 + J.deeps (ps.map Mem.j) ≤ 64) :
    parseV (123 :: joinL [125] (ps.map Mem.piece)) = .ok (.mk ⟨7, none_, 0, none_⟩ (ps.map fun p => p.j.rekey p.key)) :=
  parse_of_pv (by simp only [List.length_cons]; omega) rfl (pv_obj [] ps hp hk _ 0 0 (by unfold fuelOf; simp only [List.length_cons]; omega) (by omega) (by omega))

/-! ### what was put together so far -/
/-- texts with commas between them -/
def accL (c : UInt8) : List (List UInt8) → List UInt8
  | [] => [c]
  | l :: ls => c :: l ++ (ls.flatMap fun m => 44 :: m)
theorem accL_snoc (c : UInt8) (ls : List (List UInt8)) (m : List UInt8) : accL c (ls ++ [m]) = (if ls = [] then accL c ls else accL c ls ++ [44]) ++ m := by
  cases ls with
  | nil => simp [accL]
  | cons l ls =>
    rw [if_neg (by simp)]
    simp [accL, List.flatMap_append]
theorem joinL_flat (e : List UInt8) : ∀ (l : List UInt8) (ls : List (List UInt8)), joinL e (l :: ls) = l ++ (ls.flatMap fun m => 44 :: m) ++ e
  | l, [] => by simp [joinL]
  | l, m :: ls => by
    rw [joinL, joinL_flat e m ls]
    simp
theorem accL_join (c : UInt8) (e : List UInt8) (ls : List (List UInt8)) : accL c ls ++ e = c :: joinL e ls := by
  cases ls with
  | nil => rfl
  | cons l ls =>
    rw [joinL_flat]
    simp [accL]
theorem accL_len (c : UInt8) (L : Nat) : ∀ {ls : List (List UInt8)}, (∀ l ∈ ls, l.length ≤ L) → (accL c ls).length ≤ 1 + ls.length * (L + 1) := by
  have h : ∀ {ls : List (List UInt8)}, (∀ l ∈ ls, l.length ≤ L) → (ls.flatMap fun m => 44 :: m).length ≤ ls.length * (L + 1) := by
    intro ls
    induction ls with
    | nil => intro _; simp
    | cons l ls ih =>
      intro h
      have h1 := h l (List.mem_cons_self ..)
      have h2 := ih fun x hx => h x (List.mem_cons_of_mem _ hx)
      simp only [List.flatMap_cons, List.length_append, List.length_cons, Nat.succ_mul] at h2 ⊢
      omega
  intro ls hs
  cases ls with
  | nil => simp [accL]
  | cons l ls =>
    have h1 := hs l (List.mem_cons_self ..)
    have h2 := h fun x hx => hs x (List.mem_cons_of_mem _ hx)
    simp only [accL, List.length_append, List.length_cons, Nat.succ_mul] at h2 ⊢
    omega
end Go.Proofs.YtcddfpcapbdphaaGreatDoor

/-! ### Members put together, and read: plain laws; the keys of one letter. -/
namespace Go.Proofs.YtcddfpcapbdphaaGreatDoor

theorem cat_list (a b : ByteArray) : (a ++ b).data.toList = a.data.toList ++ b.data.toList := by simp
def rowsM (ps : List Mem) : List (List Nd) := ps.map fun p => p.j.flat
def jsM (ps : List Mem) : List J := ps.map Mem.j
def keysM (ps : List Mem) : List ByteArray := ps.map Mem.key
def listM (ps : List Mem) : J := .mk ⟨6, none_, 0, none_⟩ (jsM ps)
def objM (ps : List Mem) : J := .mk ⟨7, none_, 0, none_⟩ (ps.map fun p => p.j.rekey p.key)
theorem mems_may {ps : List Mem} (h : ∀ p ∈ ps, parseV p.l = .ok p.j) : AllMay (rowsM ps) (jsM ps) := by
  refine ⟨by simp [rowsM, jsM], fun i hi hi' => ?_⟩
  simp only [rowsM, jsM, List.getElem_map]
  exact parseV_may (h _ (List.getElem_mem _))
theorem rekeys_map : ∀ (ps : List Mem), rekeys (keysM ps) (jsM ps) = ps.map fun p => p.j.rekey p.key
  | [] => rfl
  | p :: ps => by
    simp only [keysM, jsM, List.map_cons, rekeys]
    have := rekeys_map ps
    simp only [keysM, jsM] at this
    rw [this]
theorem rekeys_flats_len : ∀ (ps : List Mem), (J.flats (ps.map fun p => p.j.rekey p.key)).length = (J.flats (jsM ps)).length
  | [] => rfl
  | p :: ps => by
    have := rekeys_flats_len ps
    simp only [List.map_cons, flats_cons, jsM, List.length_append, rekey_len] at this ⊢
    omega
theorem rekeys_deeps_eq : ∀ (ps : List Mem), J.deeps (ps.map fun p => p.j.rekey p.key) = J.deeps (jsM ps)
  | [] => rfl
  | p :: ps => by
    have := rekeys_deeps_eq ps
    simp only [List.map_cons, jsM, J.deeps, rk_deep] at this ⊢
    rw [this]
theorem listM_len (ps : List Mem) : (listM ps).flat.length = (J.flats (jsM ps)).length + 1 := by rw [listM, flat_mk, List.length_cons]
theorem objM_len (ps : List Mem) : (objM ps).flat.length = (J.flats (jsM ps)).length + 1 := by rw [objM, flat_mk, List.length_cons, rekeys_flats_len]
theorem listM_deep (ps : List Mem) : (listM ps).deep = 1 + J.deeps (jsM ps) := by simp only [listM, J.deep]; omega
theorem objM_deep (ps : List Mem) : (objM ps).deep = 1 + J.deeps (jsM ps) := by simp only [objM, J.deep, rekeys_deeps_eq]; omega
theorem listM_say {ps : List Mem} (h : ∀ p ∈ ps, parseV p.l = .ok p.j) (hn : 1 + (J.flats (jsM ps)).length ≤ 4000) (hd : 1 + J.deeps (jsM ps) ≤ 64) : ListT (rowsM ps) (listM ps).flat 0 :=
  .inr ⟨jsM ps, mems_may h, .inr (.inr ⟨by omega, by omega, rfl, rfl⟩)⟩
theorem objM_say {ps : List Mem} (h : ∀ p ∈ ps, p.Ok) (hk : (ps.map Mem.k).Nodup) (hv : ∀ p ∈ ps, vU p.key = true) (hn : 1 + (J.flats (jsM ps)).length ≤ 4000) (hd : 1 + J.deeps (jsM ps) ≤ 64) : ObjT (keysM ps) (rowsM ps) (objM ps).flat 0 := by
  have hkl : (keysM ps).length = (rowsM ps).length := by simp [keysM, rowsM]
  have hm := mems_may fun p hp => (h p hp).val
  refine .inr ⟨hkl, .inr ⟨fun j hj => ?_, jsM ps, hm, ?_⟩⟩
  · have hjk : j < (keysM ps).length := by rw [hkl]; exact hj
    have hjp : j < ps.length := by simpa [keysM] using hjk
    rw [objErr_chk hjk hj (by simp only [keysM, List.getElem_map]; exact hv _ (List.getElem_mem _)) (by
      rw [hasKey_not]
      intro hm
      obtain ⟨i, hi, e⟩ := List.mem_take_iff_getElem.1 hm
      simp only [keysM, List.getElem_map, Mem.key] at e
      have e2 := bT_inj e
      have hi2 : i < ps.length := by simp only [keysM, List.length_map] at hi; omega
      have := (List.getElem_inj (i := i) (j := j) (h₀ := by simpa using hi2) (h₁ := by simpa using hjp) hk).1 (by simpa using e2)
      omega)]
    exact allMay_chk hm j hj
  · rw [rekeys_map]
    exact .inr (.inr ⟨by rw [rekeys_flats_len]; omega, by rw [rekeys_deeps_eq]; omega, rfl, rfl⟩)
theorem keys_none {ps : List Mem} (h : ∀ p ∈ ps, parseV p.l = .ok p.j) : (ps.map fun p => p.j.rekey none_) = jsM ps :=
  List.map_congr_left fun p hp => rekey_same (allMay_keys (mems_may h) _ (List.mem_map.2 ⟨p, hp, rfl⟩))
theorem listM_parse {ps : List Mem} (h : ∀ p ∈ ps, parseV p.l = .ok p.j) (hl : (accL 91 (ps.map Mem.l)).length ≤ 1048575) (hn : 1 + (J.flats (jsM ps)).length ≤ 4000) (hd : 1 + J.deeps (jsM ps) ≤ 64) : parseV (accL 91 (ps.map Mem.l) ++ [93]) = .ok (listM ps) := by
  have h1 := accL_join 91 [93] (ps.map Mem.l)
  have h2 := congrArg List.length h1
  simp only [List.length_append, List.length_cons, List.length_nil] at h2
  have h3 := parse_list (ps.map fun p => (p.l, p.j)) (fun p hp => by
      obtain ⟨q, hq, rfl⟩ := List.mem_map.1 hp
      exact h q hq) (by rw [show (ps.map fun p => (p.l, p.j)).map (·.1) = ps.map Mem.l by simp [Function.comp_def]]; omega)
    (by rw [show (ps.map fun p => (p.l, p.j)).map (·.2) = jsM ps by simp [jsM, Function.comp_def]]; omega) (by rw [show (ps.map fun p => (p.l, p.j)).map (·.2) = jsM ps by simp [jsM, Function.comp_def]]; omega)
  rw [show (ps.map fun p => (p.l, p.j)).map (·.1) = ps.map Mem.l by simp [Function.comp_def]] at h3
  rw [h1, h3, listM, ← keys_none h]
  simp [Function.comp_def]
theorem objM_parse {ps : List Mem} (h : ∀ p ∈ ps, p.Ok) (hk : (ps.map Mem.k).Nodup) (hl : (accL 123 (ps.map Mem.piece)).length ≤ 1048575) (hn : 1 + (J.flats (jsM ps)).length ≤ 4000) (hd : 1 + J.deeps (jsM ps) ≤ 64) : parseV (accL 123 (ps.map Mem.piece) ++ [125]) = .ok (objM ps) := by
  have h1 := accL_join 123 [125] (ps.map Mem.piece)
  have h2 := congrArg List.length h1
  simp only [List.length_append, List.length_cons, List.length_nil] at h2
  rw [h1, parse_obj ps h hk (by omega) hn hd, objM]

/-! ### keys of one letter -/
def isKeyA (k : UInt8) : Prop := k = 97 ∨ k = 98 ∨ k = 99 ∨ k = 100 ∨ k = 101 ∨ k = 102
theorem key_a (k : UInt8) (hk : isKeyA k) : litV [34, k, 34] = .ok ([k], []) := by
  rcases hk with rfl | rfl | rfl | rfl | rfl | rfl <;> rfl
theorem keyText_a {k : UInt8} (hk : isKeyA k) : KeyText [34, k, 34, 58] [k] := by
  intro had r hh
  unfold keyV
  rw [if_neg (by decide), show skipB ([34, k, 34, 58] ++ r) = [34, k, 34] ++ 58 :: r from rfl, litV_loc (key_a k hk)]
  simp only [List.nil_append]
  rw [if_neg (by rw [hasKey_not.2 hh]; decide), show skipB (58 :: r) = 58 :: r from rfl]
  rfl
theorem vU_a {k : UInt8} (hk : isKeyA k) : vU (bT [k]) = true := litV_uok (key_a k hk)
/-- a member of few bytes, under a letter -/
def memA (k : UInt8) (l : List UInt8) (j : J) : Mem := ⟨[34, k, 34, 58], [k], l, j⟩
structure Mem.Few (p : Mem) : Prop where
  ok : p.Ok
  len : p.l.length ≤ 100
  plen : p.piece.length ≤ 104
  key : vU p.key = true
theorem memA_few {k : UInt8} {l : List UInt8} {j : J} (hk : isKeyA k) (h : parseV l = .ok j) (hl : l.length ≤ 100) : (memA k l j).Few where
  ok := ⟨h, keyText_a hk⟩
  len := hl
  plen := by simp only [Mem.piece, memA, List.length_append, List.length_cons, List.length_nil]; omega
  key := vU_a hk
theorem few_size : ∀ {ps : List Mem}, (∀ p ∈ ps, p.Few) → (J.flats (jsM ps)).length ≤ 100 * ps.length ∧ J.deeps (jsM ps) ≤ 50
  | [], _ => by simp [jsM, J.flats, J.deeps]
  | p :: ps, h => by
    have h1 := few_size (ps := ps) fun x hx => h x (List.mem_cons_of_mem _ hx)
    have h0 := h p (List.mem_cons_self ..)
    have h2 := parseV_size h0.ok.val
    have h3 := h0.len
    simp only [jsM, List.map_cons, flats_cons, J.deeps, List.length_append, List.length_cons] at h1 ⊢
    omega
/-- all that the law asks -/
theorem lists_say {ps : List Mem} (h6 : ps.length ≤ 6) (hk : (ps.map Mem.k).Nodup) (h : ∀ p ∈ ps, p.Few) : ∃ ja jb : J, ListT (rowsM ps) ja.flat 0 ∧ ObjT (keysM ps) (rowsM ps) jb.flat 0 ∧ parseV (accL 91 (ps.map Mem.l) ++ [93]) = .ok ja ∧ parseV (accL 123 (ps.map Mem.piece) ++ [125]) = .ok jb ∧ ja.flat.length ≤ 4000 ∧ jb.flat.length ≤ 4000 := by
  obtain ⟨z1, z2⟩ := few_size h
  have ho : ∀ p ∈ ps, p.Ok := fun p hp => (h p hp).ok
  have a1 := accL_len 91 100 (ls := ps.map Mem.l) (fun l hl => by
    obtain ⟨q, hq, rfl⟩ := List.mem_map.1 hl
    exact (h q hq).len)
  have a2 := accL_len 123 104 (ls := ps.map Mem.piece) (fun l hl => by
    obtain ⟨q, hq, rfl⟩ := List.mem_map.1 hl
    exact (h q hq).plen)
  rw [List.length_map] at a1 a2
  exact ⟨listM ps, objM ps, listM_say (fun p hp => (ho p hp).val) (by omega) (by omega), objM_say ho hk (fun p hp => (h p hp).key) (by omega) (by omega), listM_parse (fun p hp => (ho p hp).val) (by omega) (by omega) (by omega), objM_parse ho hk (by omega) (by omega) (by omega), by rw [listM_len]; omega, by rw [objM_len]; omega⟩
end Go.Proofs.YtcddfpcapbdphaaGreatDoor

/-! ### What JreadNumbers asks of numerals: plain laws. -/
/-! ### What JreadNumbers asks of numerals: plain laws. -/
namespace Go.Proofs.YtcddfpcapbdphaaGreatDoor
open Go.Lib (decDigits itoa)

theorem num_head {neg : Bool} {D r : List UInt8} (hD : ∀ d ∈ D, isDig d = true) (h0 : D ≠ []) : ∃ c t, signD neg D ++ r = c :: t ∧ skipB (c :: t) = c :: t ∧ begB c = true ∧ c ≠ 91 ∧ c ≠ 123 ∧ c ≠ 93 ∧ leafV c (c :: t) = match numV (c :: t) with | .error b => .error b | .ok (n, q) => .ok (oneJ 4 n none_, q) := by
  obtain ⟨c, t, hc, hb⟩ : ∃ c t, signD neg D ++ r = c :: t ∧ (isDig c = true ∨ c = 45) := by
    cases neg with
    | true => exact ⟨45, D ++ r, rfl, .inr rfl⟩
    | false =>
      cases D with
      | nil => exact absurd rfl h0
      | cons d D => exact ⟨d, D ++ r, rfl, .inl (hD d (List.mem_cons_self ..))⟩
  have ne : ∀ k : UInt8, isDig k = false → k ≠ 45 → c ≠ k := by
    rintro k h1 h2 rfl
    rcases hb with hb | hb
    · rw [h1] at hb; cases hb
    · exact h2 hb
  refine ⟨c, t, hc, ?_, ?_, ne 91 (by decide) (by decide), ne 123 (by decide) (by decide), ne 93 (by decide) (by decide), ?_⟩
  · have h1 := ne 32 (by decide) (by decide)
    have h2 := ne 9 (by decide) (by decide)
    have h3 := ne 10 (by decide) (by decide)
    have h4 := ne 13 (by decide) (by decide)
    simp [skipB, isBlank, h1, h2, h3, h4]
  · unfold begB
    rcases hb with hb | hb
    · rw [hb]; simp
    · subst hb; decide
  · unfold leafV
    rw [if_neg (ne 110 (by decide) (by decide)), if_neg (ne 102 (by decide) (by decide)), if_neg (ne 116 (by decide) (by decide)), if_neg (ne 34 (by decide) (by decide))]
    cases numV (c :: t) <;> rfl
/-- a number that is wrong, behind a blank -/
theorem parse_sp {neg : Bool} {D r p : List UInt8} {e : Int} (hD : ∀ d ∈ D, isDig d = true) (h0 : D ≠ []) (hl : (32 :: (signD neg D ++ r)).length ≤ 1048576) (hn : numV (signD neg D ++ r) = .error (p, e)) : parseV (32 :: (signD neg D ++ r)) = .error ((signD neg D ++ r).length + 1 - p.length, e) := by
  obtain ⟨c, t, hc, h1, h2, h3, h4, _, h6⟩ := num_head (r := r) (neg := neg) hD h0
  rw [hc] at hl hn ⊢
  have hsk : skipB (32 :: c :: t) = c :: t := by
    have : skipB (32 :: c :: t) = skipB (c :: t) := by simp [skipB, isBlank]
    rw [this, h1]
  unfold parseV
  rw [if_neg (by omega), hsk]
  have hpv : pv (fuelOf (32 :: c :: t)) 0 0 (c :: t) = .error (p, e) := by
    unfold fuelOf
    simp only [pv]
    rw [if_neg (by rw [h2]; decide), if_neg (by decide), if_neg (by decide), if_neg (by rintro (h | h); exact h3 h; exact h4 h), h6, hn]
  rw [hpv]
  rfl
/-- a number that is wrong, in a list -/
theorem parse_br {neg : Bool} {D r p : List UInt8} {e : Int} (hD : ∀ d ∈ D, isDig d = true) (h0 : D ≠ []) (hl : (91 :: (signD neg D ++ r)).length ≤ 1048576) (hn : numV (signD neg D ++ r) = .error (p, e)) : parseV (91 :: (signD neg D ++ r)) = .error ((signD neg D ++ r).length + 1 - p.length, e) := by
  obtain ⟨c, t, hc, h1, h2, h3, h4, h5, h6⟩ := num_head (r := r) (neg := neg) hD h0
  rw [hc] at hl hn ⊢
  have hsk : skipB (91 :: c :: t) = 91 :: c :: t := by simp [skipB, isBlank]
  unfold parseV
  rw [if_neg (by omega), hsk]
  have he : endV ((91 : UInt8) == 123) (c :: t) = (false, c :: t) := by
    unfold endV
    rw [h1]
    have : c ≠ lastOf ((91 : UInt8) == 123) := h5
    simp only [opt1]
    exact if_neg this
  have hpv : pv (fuelOf (91 :: c :: t)) 0 0 (91 :: c :: t) = .error (p, e) := by
    unfold fuelOf
    simp only [pv]
    rw [if_neg (by decide), if_neg (by decide), if_neg (by decide), if_pos (.inl trivial), he]
    simp only [List.length_cons]
    rw [show 2 * (t.length + 1 + 1) + 1 = (2 * (t.length + 1) + 1) + 1 + 1 by omega]
    simp only [pp, keyV]
    rw [if_pos (by decide)]
    simp only [h1, pv]
    rw [if_neg (by rw [h2]; decide), if_neg (by decide), if_neg (by decide), if_neg (by rintro (h | h); exact h3 h; exact h4 h), h6, hn]
  rw [hpv]
  rfl
theorem decOn_ge (ds : List UInt8) : ∀ a, a * 10 ^ ds.length ≤ decOn a ds := by
  induction ds with
  | nil => intro a; rw [decOn_nil]; simp
  | cons d ds ih =>
    intro a
    rw [decOn_cons]
    have h := ih (decS a d)
    have e := decS_eq a d
    refine Nat.le_trans ?_ h
    rw [List.length_cons, Nat.pow_succ, Nat.mul_comm (10 ^ ds.length) 10, ← Nat.mul_assoc]
    exact Nat.mul_le_mul_right _ (by omega)
/-- many digits make a great number -/
theorem decV_great {D t : List UInt8} (h1 : 1 ≤ decV D) (h2 : 19 ≤ t.length) : 9223372036854775808 < decV (D ++ t) := by
  have e : decV (D ++ t) = decOn (decV D) t := by
    unfold decV decOn
    rw [List.foldl_append]
    rfl
  rw [e]
  have h := decOn_ge t (decV D)
  have h3 : 10 ^ 19 ≤ 10 ^ t.length := Nat.pow_le_pow_right (by decide) h2
  have h4 : 1 * 10 ^ 19 ≤ decV D * 10 ^ t.length := Nat.mul_le_mul h1 h3
  have h5 : (10 : Nat) ^ 19 = 10000000000000000000 := by decide
  omega
section
variable {n : Int} {d : List UInt8}
theorem itoa_dec (n : Int) : (∀ x ∈ decDigits n.natAbs, isDig x = true) ∧ decDigits n.natAbs ≠ [] := ⟨dec_all _, dec_ne _⟩
theorem nums_3 (hd : ∀ x ∈ d, isDig x = true) (hne : d ≠ []) (hl : (itoa n ++ 46 :: d).length ≤ 1048576) : parseV (itoa n ++ 46 :: d) = .error (0, 73) := by
  rw [itoa_sign] at hl ⊢
  rw [parse_num (dec_all _) (dec_ne _) hl, parse_frac (dec_all _) (dec_form _) hd hne]
  simp
theorem nums_4 (hd : ∀ x ∈ d, isDig x = true) (hne : d ≠ []) (hl : (32 :: (itoa n ++ 101 :: d)).length ≤ 1048576) : parseV (32 :: (itoa n ++ 101 :: d)) = .error (1, 73) := by
  rw [itoa_sign] at hl ⊢
  have h := parse_exp (neg := decide (n < 0)) (x := 101) (y := []) (.inl rfl) (.inl rfl) (dec_all n.natAbs) (dec_form _) hd hne
  rw [List.cons_append, List.nil_append] at h
  rw [parse_sp (dec_all _) (dec_ne _) hl h]
  congr 2
  omega
theorem nums_5 (hd : ∀ x ∈ d, isDig x = true) (hne : d ≠ []) (hl : (itoa n ++ (69 :: 45 :: d)).length ≤ 1048576) : parseV (itoa n ++ (69 :: 45 :: d)) = .error (0, 73) := by
  rw [itoa_sign] at hl ⊢
  have h := parse_exp (neg := decide (n < 0)) (x := 69) (y := [45]) (.inr rfl) (.inr (.inr rfl)) (dec_all n.natAbs) (dec_form _) hd hne
  rw [parse_num (dec_all _) (dec_ne _) hl]
  rw [show (69 :: [45] ++ d) = 69 :: 45 :: d from rfl] at h
  rw [h]
  simp
theorem nums_6 (hl : (91 :: (itoa n ++ [46, 93])).length ≤ 1048576) : parseV (91 :: (itoa n ++ [46, 93])) = .error (2 + (itoa n).length, 70) := by
  rw [itoa_sign] at hl ⊢
  rw [parse_br (dec_all _) (dec_ne _) hl (parse_frac_no (dec_all _) (dec_form _))]
  congr 2
  rw [List.length_append]
  simp only [List.length_cons, List.length_nil]
  omega
theorem nums_7 (hl : (itoa n ++ [101]).length ≤ 1048576) : parseV (itoa n ++ [101]) = .error ((itoa n).length + 1, 70) := by
  rw [itoa_sign] at hl ⊢
  rw [parse_num (dec_all _) (dec_ne _) hl, parse_exp_no (.inl rfl) (dec_all _) (dec_form _)]
  simp
theorem nums_8 (hl : (itoa n ++ [101, 43]).length ≤ 1048576) : parseV (itoa n ++ [101, 43]) = .error ((itoa n).length + 2, 70) := by
  rw [itoa_sign] at hl ⊢
  rw [parse_num (dec_all _) (dec_ne _) hl, parse_exp_no (.inr rfl) (dec_all _) (dec_form _)]
  simp
theorem nums_2 {k : Nat} (h0 : n ≠ 0) (hk : 19 ≤ k) (hl : (itoa n ++ List.replicate k 55).length ≤ 1048576) : parseV (itoa n ++ List.replicate k 55) = .error (0, 73) := by
  rw [itoa_sign] at hl ⊢
  have e : signD (decide (n < 0)) (decDigits n.natAbs) ++ List.replicate k 55 = signD (decide (n < 0)) (decDigits n.natAbs ++ List.replicate k 55) := by unfold signD; rw [List.append_assoc]
  rw [e] at hl ⊢
  obtain ⟨c, r, hc, _, h2, _⟩ := dec_head n.natAbs
  refine parse_long (fun x hx => ?_) ⟨c, r ++ List.replicate k 55, by rw [hc]; rfl, h2 (by omega)⟩ (decV_great (by rw [dec_val]; omega) (by simpa using hk)) hl
  rcases List.mem_append.1 hx with hx | hx
  · exact dec_all _ x hx
  · rw [List.eq_of_mem_replicate hx]; decide
theorem nums_20 {k : Nat} (hk : 19 ≤ k) (hl : (49 :: (itoa 0 ++ List.replicate k 55)).length ≤ 1048576) : parseV (49 :: (itoa 0 ++ List.replicate k 55)) = .error (0, 73) := by
  have e : 49 :: (itoa 0 ++ List.replicate k 55) = signD false ([49, 48] ++ List.replicate k 55) := by
    have : itoa 0 = [48] := by
      rw [itoa_sign]
      have h := (dec_head 0).choose_spec.choose_spec
      rcases dec_form 0 with h1 | h1
      · rw [show (0 : Int).natAbs = 0 from rfl, h1]; rfl
      · obtain ⟨d, r, e, _, _, h3⟩ := dec_head 0
        obtain ⟨h4, h5⟩ := h3 rfl
        rw [show (0 : Int).natAbs = 0 from rfl, e, h4, h5]; rfl
    rw [this]
    rfl
  rw [e] at hl ⊢
  refine parse_long (fun x hx => ?_) ⟨49, 48 :: List.replicate k 55, rfl, by decide⟩ (decV_great (by decide) (by simpa using hk)) hl
  rcases List.mem_append.1 hx with hx | hx
  · simp at hx; rcases hx with rfl | rfl <;> decide
  · rw [List.eq_of_mem_replicate hx]; decide
end
end Go.Proofs.YtcddfpcapbdphaaGreatDoor

/-! ### Texts of values that are cut off, or that more stands behind: plain laws. -/
namespace Go.Proofs.YtcddfpcapbdphaaGreatDoor
open Go.Lib (decDigits itoa)

/-- wrong at the end of what is left, or in a literal that has no end -/
def Cut {α : Type} (p : List UInt8) (x : Except Bad α) : Prop := x = .error ([], 70) ∨ ∃ q r, p = q ++ 34 :: r ∧ x = .error (34 :: r, 3)
theorem Cut.pre {α : Type} {p : List UInt8} {x : Except Bad α} (q : List UInt8) (h : Cut p x) : Cut (q ++ p) x := by
  rcases h with h | ⟨u, r, h1, h2⟩
  · exact .inl h
  · exact .inr ⟨q ++ u, r, by rw [h1, List.append_assoc], h2⟩
theorem Cut.err {α : Type} {p : List UInt8} {x : Except Bad α} (h : Cut p x) : ∃ b, x = .error b ∧ ∀ β : Type, Cut p (.error b : Except Bad β) := by
  rcases h with rfl | ⟨u, r, h1, rfl⟩
  · exact ⟨_, rfl, fun _ => .inl rfl⟩
  · exact ⟨_, rfl, fun _ => .inr ⟨u, r, h1, rfl⟩⟩
theorem app_cut {a b x y : List UInt8} (h : a ++ b = x ++ y) : (∃ c, c ≠ [] ∧ a = x ++ c) ∨ ∃ x', x = a ++ x' ∧ b = x' ++ y := by
  rcases List.append_eq_append_iff.1 h with ⟨u, h1, h2⟩ | ⟨u, h1, h2⟩
  · exact .inr ⟨u, h1, h2⟩
  · by_cases hu : u = []
    · subst hu
      exact .inr ⟨[], by simpa using h1.symm, by simpa using h2.symm⟩
    · exact .inl ⟨u, hu, h1⟩
def Blanks (b : List UInt8) : Prop := ∀ c ∈ b, isBlank c = true
theorem Blanks.skip {b : List UInt8} (h : Blanks b) (l : List UInt8) : skipB (b ++ l) = skipB l := by
  induction b with
  | nil => rfl
  | cons c b ih =>
    simp only [List.cons_append, skipB]
    rw [if_pos (h c (List.mem_cons_self ..)), ih fun x hx => h x (List.mem_cons_of_mem _ hx)]
theorem Blanks.none {b : List UInt8} (h : Blanks b) : skipB b = [] := by
  have := h.skip []
  rwa [List.append_nil] at this
theorem Blanks.pre {b x c : List UInt8} (h : Blanks b) (e : b = x ++ c) : Blanks x := fun y hy => h y (by rw [e]; exact List.mem_append_left _ hy)
theorem Blanks.free {b : List UInt8} (h : Blanks b) {t : List UInt8} (ht : Free t) : Free (b ++ t) := by
  cases b with
  | nil => exact ht
  | cons c b =>
    have h1 := h c (List.mem_cons_self ..)
    unfold isBlank at h1
    simp only [Bool.or_eq_true, beq_iff_eq] at h1
    unfold Free
    simp only [List.cons_append]
    rcases h1 with ((rfl | rfl) | rfl) | rfl <;> decide
theorem Free.nil_ : Free [] := by unfold Free; trivial
theorem pv_nil (f n d : Nat) : pv (f + 1) n d [] = .error ([], 70) := by simp only [pv]
theorem moreV_none {obj : Bool} {l : List UInt8} (h : skipB l = []) : moreV obj l = .error ([], 70) := by
  unfold moreV
  rw [h]
/-- a text of a value, no blanks ahead -/
structure Txt (l : List UInt8) (j : J) : Prop where
  val : parseV l = .ok j
  skip : skipB l = l
  cut : ∀ p q, l = p ++ q → q ≠ [] → ∀ f n d, 2 * p.length + 2 ≤ f → n + j.flat.length ≤ 4000 → d + j.deep ≤ 64 → Cut p (pv f n d p) ∨ (j.hd.kind = 4 ∧ ∃ j', pv f n d p = .ok (j', []))
  any : j.hd.kind ≠ 4 → ∀ t f n d, fuelOf l ≤ f → n + j.flat.length ≤ 4000 → d + j.deep ≤ 64 → pv f n d (l ++ t) = .ok (j, t)
theorem Txt.ne {l : List UInt8} {j : J} (h : Txt l j) : l ≠ [] := by
  rintro rfl
  have := h.val
  cases this
theorem Txt.pre_skip {l p q : List UInt8} {j : J} (h : Txt l j) (e : l = p ++ q) : skipB p = p := by
  cases p with
  | nil => rfl
  | cons c p =>
    have h1 := h.skip
    rw [e] at h1
    simp only [List.cons_append, skipB] at h1 ⊢
    split at h1
    · rename_i hb
      have h2 := congrArg List.length h1
      have h3 := skipB_len (p ++ q)
      simp only [List.length_cons] at h2
      omega
    · rename_i hb
      rw [if_neg hb]
/-- a key's text, and its cuts -/
structure KeyTxt (kt k : List UInt8) : Prop where
  key : KeyText kt k
  cut : ∀ p q, kt = p ++ q → q ≠ [] → ∀ had, bT k ∉ had → Cut p (keyV true had p) ∨ ∃ b, Blanks b ∧ keyV true had p = .ok (bT k, b)
/-- blanks, a text, blanks -/
structure Mid (l : List UInt8) (j : J) : Prop where
  mid : ∃ b v b', l = b ++ (v ++ b') ∧ Blanks b ∧ Blanks b' ∧ Txt v j
theorem parse_mid {l : List UInt8} {j : J} (h : Mid l j) (hl : l.length ≤ 1048576) : parseV l = .ok j := by
  obtain ⟨b, v, b', rfl, hb, hb', hv⟩ := h
  obtain ⟨m1, m2, m3⟩ := parseV_may hv.val
  simp only [List.length_append] at hl
  obtain ⟨r, h1, h2, h3⟩ := parse_in (t := b') (n := 0) (d := 0) (g := 2 * b.length + 2 * b'.length) hv.val (by have := hb'.free Free.nil_; rwa [List.append_nil] at this) (by omega) (by omega)
  unfold parseV
  rw [if_neg (by simp only [List.length_append]; omega), hb.skip, skip_loc h2, show fuelOf (b ++ (v ++ b')) = fuelOf v + (2 * b.length + 2 * b'.length) by unfold fuelOf; simp only [List.length_append]; omega, h3]
  simp only
  rw [skip_all h1, hb'.none]
/-- a part of a list, or an object -/
structure MemT (obj : Bool) (p : Mem) : Prop where
  mid : Mid p.l p.j
  len : p.l.length ≤ 1048576
  key : obj = true → KeyTxt p.kt p.k
  nokey : obj = false → p.kt = []
theorem MemT.ok {p : Mem} (h : MemT true p) : p.Ok := ⟨parse_mid h.mid h.len, (h.key rfl).key⟩
theorem lastOf_free (obj : Bool) (t : List UInt8) : Free (lastOf obj :: t) := by cases obj <;> exact ⟨by decide, by decide, by decide, by decide⟩
theorem comma_free (t : List UInt8) : Free (44 :: t) := ⟨by decide, by decide, by decide, by decide⟩
theorem join_cons (e : List UInt8) (l : List UInt8) (ls : List (List UInt8)) : ∃ T, joinL e (l :: ls) = l ++ T ∧ ((ls = [] ∧ T = e) ∨ (ls ≠ [] ∧ T = 44 :: joinL e ls)) := by
  cases ls with
  | nil => exact ⟨e, rfl, .inl ⟨rfl, rfl⟩⟩
  | cons m ls => exact ⟨_, rfl, .inr ⟨by simp, rfl⟩⟩
theorem pp_cut (obj : Bool) : ∀ (ps : List Mem) (had : List ByteArray), ps ≠ [] → (∀ p ∈ ps, MemT obj p ∧ (obj = true → p.key ∉ had)) → (obj = true → (ps.map Mem.k).Nodup) → ∀ (x y : List UInt8) (f n d : Nat), joinL [lastOf obj] (ps.map Mem.piece) = x ++ y → y ≠ [] → 2 * x.length + 3 ≤ f → n + (J.flats (jsM ps)).length ≤ 4000 → d + J.deeps (jsM ps) ≤ 64 →
    Cut x (pp f obj n d had x)
  | [], _, h, _, _, _, _, _, _, _, _, _, _, _, _ => absurd rfl h
  | p :: ps, had, _, hp, hnd, x, y, f, n, d, hx, hy, hf, hn, hd => by
    obtain ⟨g, rfl⟩ : ∃ g, f = g + 1 + 1 := ⟨f - 2, by omega⟩
    obtain ⟨hm, hk⟩ := hp p (List.mem_cons_self ..)
    obtain ⟨⟨b, v, b', hl, hb, hb', hv⟩⟩ := hm.mid
    simp only [jsM, List.map_cons, flats_cons, List.length_append] at hn
    simp only [jsM, List.map_cons, J.deeps] at hd
    obtain ⟨T, hT, hT2⟩ := join_cons [lastOf obj] p.piece (ps.map Mem.piece)
    have hTf : Free T := by
      rcases hT2 with ⟨_, rfl⟩ | ⟨_, rfl⟩
      · exact lastOf_free obj []
      · exact comma_free _
    rw [List.map_cons, hT, Mem.piece, hl] at hx
    simp only [List.append_assoc] at hx
    rw [pp]
    rcases app_cut hx with ⟨c, hc, e⟩ | ⟨x1, rfl, hx1⟩
    · -- within the key
      cases obj with
      | false =>
        rw [hm.nokey rfl] at e
        have := congrArg List.length e
        simp only [List.length_nil, List.length_append] at this
        exact absurd (List.eq_nil_of_length_eq_zero (by omega)) hc
      | true =>
        rcases (hm.key rfl).cut x c e hc had (hk rfl) with h | ⟨bb, h1, h2⟩
        · obtain ⟨bad, e1, e2⟩ := h.err
          rw [e1]
          exact e2 _
        · rw [h2]
          simp only
          rw [h1.none, pv_nil]
          exact .inl rfl
    · have hkey : ∃ kk, keyV obj had (p.kt ++ x1) = .ok (kk, x1) ∧ hadOf obj had kk = (if obj then had ++ [p.key] else had) := by
        cases obj with
        | false =>
          rw [hm.nokey rfl]
          exact ⟨none_, by simp [keyV], rfl⟩
        | true => exact ⟨_, (hm.key rfl).key had x1 (hk rfl), rfl⟩
      obtain ⟨kk, hkv, hho⟩ := hkey
      rw [hkv]
      simp only
      rcases app_cut hx1 with ⟨c, _, e⟩ | ⟨x2, rfl, hx2⟩
      · rw [(hb.pre e).none, pv_nil]
        exact .inl rfl
      rw [hb.skip]
      simp only [List.length_append] at hf
      rcases app_cut hx2 with ⟨c, hc, e⟩ | ⟨x3, rfl, hx3⟩
      · rw [hv.pre_skip e]
        rcases hv.cut x2 c e hc (g + 1) n d (by omega) (by omega) (by omega) with h | ⟨_, j', h⟩
        · obtain ⟨bad, e1, e2⟩ := h.err
          rw [e1]
          exact ((e2 _).pre b).pre p.kt
        · rw [h]
          simp only
          rw [moreV_none rfl]
          exact .inl rfl
      · have hvl : skipB v ≠ [] := by rw [hv.skip]; exact hv.ne
        simp only [List.length_append] at hf
        have hf3 : Free x3 := by
          cases x3 with
          | nil => exact Free.nil_
          | cons c x3 =>
            have := hb'.free hTf
            rw [hx3] at this
            exact this
        obtain ⟨r, h1, h2, h3⟩ := parse_in (t := x3) (n := n) (d := d) (g := g + 1 - fuelOf v) hv.val hf3 (by omega) (by omega)
        rw [show fuelOf v + (g + 1 - fuelOf v) = g + 1 by unfold fuelOf; omega] at h3
        rw [skip_loc hvl, h3]
        simp only
        rcases app_cut hx3 with ⟨c, _, e⟩ | ⟨x4, rfl, hx4⟩
        · rw [moreV_none (by rw [skip_all h1, (hb'.pre e).none])]
          exact .inl rfl
        · rcases x4 with _ | ⟨c4, x5⟩
          · rw [moreV_none (by rw [skip_all h1, List.append_nil, hb'.none])]
            exact .inl rfl
          · rcases hT2 with ⟨_, rfl⟩ | ⟨hne, rfl⟩
            · have := congrArg List.length hx4
              simp only [List.length_cons, List.length_nil, List.length_append] at this
              exact absurd (List.eq_nil_of_length_eq_zero (by omega)) hy
            · simp only [List.cons_append, List.cons.injEq] at hx4
              obtain ⟨rfl, hx5⟩ := hx4
              have hmore : moreV obj (r ++ (b' ++ 44 :: x5)) = .ok (true, x5) := by
                unfold moreV
                rw [skip_all h1, hb'.skip]
                rfl
              rw [hmore]
              simp only
              have ih := pp_cut obj ps (hadOf obj had kk) (fun e => hne (by rw [e]; rfl)) (fun z hz => ⟨(hp z (List.mem_cons_of_mem _ hz)).1, fun ho => by
                rw [hho, ho, if_pos rfl]
                intro hmem
                rcases List.mem_append.1 hmem with hmem | hmem
                · exact (hp z (List.mem_cons_of_mem _ hz)).2 ho hmem
                · have e := bT_inj (List.mem_singleton.1 hmem)
                  have := hnd ho
                  rw [List.map_cons, List.nodup_cons] at this
                  exact this.1 (by rw [← e]; exact List.mem_map.2 ⟨z, hz, rfl⟩)⟩) (fun ho => by
                have := hnd ho
                rw [List.map_cons, List.nodup_cons] at this
                exact this.2) x5 y (g + 1) (n + p.j.flat.length) d hx5 hy (by simp only [List.length_append, List.length_cons] at hf; omega) (by simp only [jsM]; omega) (by simp only [jsM]; omega)
              obtain ⟨bad, e1, e2⟩ := ih.err
              rw [e1]
              exact ((((e2 _).pre [44]).pre b').pre v |>.pre b).pre p.kt

/-! ### lists and objects -/
def openOf (obj : Bool) : UInt8 := if obj then 123 else 91
theorem open_beg (obj : Bool) : begB (openOf obj) = true ∧ (openOf obj = 91 ∨ openOf obj = 123) ∧ (openOf obj == 123) = obj := by cases obj <;> exact ⟨by decide, by decide, by decide⟩
theorem pv_open (f n d : Nat) (obj : Bool) (r : List UInt8) (hn : n < 4000) (hd : d < 64) : pv (f + 1) n d (openOf obj :: r) = match endV obj r with
    | (true, r1) => .ok (.mk ⟨kindOf obj, none_, 0, none_⟩ [], r1)
    | (false, r1) => match pp f obj (n + 1) (d + 1) [] r1 with
      | .error b => .error b
      | .ok (js, r2) => .ok (.mk ⟨kindOf obj, none_, 0, none_⟩ js, r2) := by
  obtain ⟨h1, h2, h3⟩ := open_beg obj
  rw [pv]
  rw [if_neg (by rw [h1]; decide), if_neg (by omega), if_neg (by omega), if_pos h2, h3]
  rfl
theorem end_none {obj : Bool} {r : List UInt8} (h : skipB r = []) : endV obj r = (false, []) := by
  unfold endV
  rw [h]
  rfl
theorem end_other {obj : Bool} {r x : List UInt8} {c : UInt8} (h : skipB r = c :: x) (hc : c ≠ lastOf obj) : endV obj r = (false, skipB r) := by
  unfold endV
  rw [h]
  simp only [opt1]
  rw [if_neg hc]
theorem pp_none {f : Nat} (obj : Bool) (n d : Nat) (had : List ByteArray) : pp (f + 1 + 1) obj n d had [] = .error ([], 70) := by
  cases obj <;> simp [pp, keyV, skipB, pv, litV]
/-- where the parts begin -/
theorem mem_begin {obj : Bool} {p : Mem} (h : MemT obj p) (T : List UInt8) : ∃ c r, skipB (p.piece ++ T) = c :: r ∧ c ≠ lastOf obj := by
  cases obj with
  | true =>
    obtain ⟨r, hr⟩ := (h.key rfl).key.ne (p.l ++ T)
    exact ⟨34, r, by rw [Mem.piece, List.append_assoc]; exact hr, by decide⟩
  | false =>
    obtain ⟨b, v, b', hl, hb, hb', hv⟩ := h.mid.mid
    obtain ⟨c, r, h1, h2⟩ := begins hv.val
    refine ⟨c, r ++ (b' ++ T), ?_, by rintro rfl; exact absurd h2 (by decide)⟩
    rw [Mem.piece, h.nokey rfl, hl, List.nil_append, List.append_assoc, List.append_assoc, hb.skip, skip_loc (by rw [h1]; simp), h1]
    rfl
theorem open_cut (obj : Bool) (ps : List Mem) (hne : ps ≠ []) (hp : ∀ p ∈ ps, MemT obj p) (hk : obj = true → (ps.map Mem.k).Nodup) (x y : List UInt8) (f n d : Nat) (hx : openOf obj :: joinL [lastOf obj] (ps.map Mem.piece) = x ++ y) (hy : y ≠ []) (hf : 2 * x.length + 2 ≤ f) (hn : n + 1 + (J.flats (jsM ps)).length ≤ 4000) (hd : d + 1 + J.deeps (jsM ps) ≤ 64) : Cut x (pv f n d x) := by
  obtain ⟨g, rfl⟩ : ∃ g, f = g + 1 := ⟨f - 1, by omega⟩
  rcases x with _ | ⟨c, x⟩
  · rw [pv_nil]
    exact .inl rfl
  simp only [List.cons_append, List.cons.injEq] at hx
  obtain ⟨rfl, hx⟩ := hx
  simp only [List.length_cons] at hf
  obtain ⟨g, rfl⟩ : ∃ k, g = k + 1 + 1 := ⟨g - 2, by omega⟩
  rw [pv_open _ _ _ _ _ (by omega) (by omega)]
  have hc := pp_cut obj ps [] hne (fun p h => ⟨hp p h, fun _ => by simp⟩) hk x y (g + 1 + 1) (n + 1) (d + 1) hx hy (by omega) (by omega) (by omega)
  cases hs : skipB x with
  | nil =>
    rw [end_none hs]
    simp only
    rw [pp_none]
    exact .inl rfl
  | cons c r =>
    have hco : c ≠ lastOf obj := by
      obtain ⟨p, ps', rfl⟩ := List.exists_cons_of_ne_nil hne
      obtain ⟨T, hT, _⟩ := join_cons [lastOf obj] p.piece (ps'.map Mem.piece)
      rw [List.map_cons, hT] at hx
      obtain ⟨c', r', h1, h2⟩ := mem_begin (hp p (List.mem_cons_self ..)) T
      rw [hx, skip_loc (by rw [hs]; simp), hs] at h1
      simp only [List.cons_append, List.cons.injEq] at h1
      rw [h1.1]
      exact h2
    rw [end_other hs hco]
    simp only
    rw [pp_skip]
    obtain ⟨bad, e1, e2⟩ := hc.err
    rw [e1]
    exact (e2 _).pre [openOf obj]
theorem open_cut_none (obj : Bool) (b : List UInt8) (hb : Blanks b) (x y : List UInt8) (f n d : Nat) (hx : openOf obj :: (b ++ [lastOf obj]) = x ++ y) (hy : y ≠ []) (hf : 2 * x.length + 2 ≤ f) (hn : n + 1 ≤ 4000) (hd : d + 1 ≤ 64) : Cut x (pv f n d x) := by
  obtain ⟨g, rfl⟩ : ∃ g, f = g + 1 := ⟨f - 1, by omega⟩
  rcases x with _ | ⟨c, x⟩
  · rw [pv_nil]
    exact .inl rfl
  simp only [List.cons_append, List.cons.injEq] at hx
  obtain ⟨rfl, hx⟩ := hx
  simp only [List.length_cons] at hf
  obtain ⟨g, rfl⟩ : ∃ k, g = k + 1 + 1 := ⟨g - 2, by omega⟩
  rw [pv_open _ _ _ _ _ (by omega) (by omega)]
  have hxb : Blanks x := by
    rcases app_cut hx with ⟨c, _, e⟩ | ⟨x', rfl, h2⟩
    · exact hb.pre e
    · have := congrArg List.length h2
      simp only [List.length_cons, List.length_nil, List.length_append] at this
      have hy0 : y.length ≠ 0 := fun h => hy (List.eq_nil_of_length_eq_zero h)
      have : x' = [] := List.eq_nil_of_length_eq_zero (by omega)
      rw [this, List.append_nil]
      exact hb
  rw [end_none hxb.none]
  simp only
  rw [pp_none]
  exact .inl rfl
/-- what may be behind: what nodes and depth a value has -/
theorem txt_may {l : List UInt8} {j : J} (h : parseV l = .ok j) : j.flat.length ≤ 4000 ∧ j.deep ≤ 64 := (parseV_may h).2
theorem skip_open (obj : Bool) (l : List UInt8) : skipB (openOf obj :: l) = openOf obj :: l := by cases obj <;> rfl
theorem list_txt {ps : List Mem} (hne : ps ≠ []) (hp : ∀ p ∈ ps, MemT false p) (hl : (accL 91 (ps.map Mem.piece)).length ≤ 1048575) (hn : 1 + (J.flats (jsM ps)).length ≤ 4000) (hd : 1 + J.deeps (jsM ps) ≤ 64) : Txt (accL 91 (ps.map Mem.piece) ++ [93]) (listM ps) := by
  have hpl : ps.map Mem.piece = (ps.map fun p => (p.l, p.j)).map (·.1) := by
    rw [List.map_map]
    exact List.map_congr_left fun p h => by simp [Mem.piece, (hp p h).nokey rfl]
  have hpj : (ps.map fun p => (p.l, p.j)).map (·.2) = jsM ps := by simp [jsM, Function.comp_def]
  have hpv : ∀ p ∈ (ps.map fun p => (p.l, p.j)), parseV p.1 = .ok p.2 := fun p h => by
    obtain ⟨q, hq, rfl⟩ := List.mem_map.1 h
    exact parse_mid (hp q hq).mid (hp q hq).len
  have h1 := accL_join 91 [93] (ps.map Mem.piece)
  have h2 := congrArg List.length h1
  simp only [List.length_append, List.length_cons, List.length_nil] at h2
  have hlist : ((ps.map fun p => (p.l, p.j)).map fun p => p.2.rekey none_) = jsM ps := by
    rw [List.map_map]
    refine List.map_congr_left fun p h => rekey_same (parseV_may (parse_mid (hp p h).mid (hp p h).len)).1.2.1
  have hany : ∀ t f n d, 2 * (joinL [93] (ps.map Mem.piece)).length + 2 ≤ f → n + 1 + (J.flats (jsM ps)).length ≤ 4000 → d + 1 + J.deeps (jsM ps) ≤ 64 → pv f n d (91 :: joinL (93 :: t) (ps.map Mem.piece)) = .ok (listM ps, t) := fun t f n d a1 a2 a3 => by
    have := pv_list t (ps.map fun p => (p.l, p.j)) hpv f n d (by rw [← hpl]; exact a1) (by rw [hpj]; exact a2) (by rw [hpj]; exact a3)
    rw [hlist, ← hpl] at this
    exact this
  refine ⟨?_, ?_, ?_, ?_⟩
  · rw [h1]
    exact parse_of_pv (by simp only [List.length_cons]; omega) rfl (hany [] _ 0 0 (by unfold fuelOf; simp only [List.length_cons]; omega) (by omega) (by omega))
  · rw [h1]; rfl
  · intro x y hx hy f n d hf hn' hd'
    rw [h1] at hx
    rw [listM_len] at hn'
    rw [listM_deep] at hd'
    exact .inl (open_cut false ps hne hp (fun h => by cases h) x y f n d hx hy hf (by omega) (by omega))
  · intro _ t f n d hf hn' hd'
    rw [listM_len] at hn'
    rw [listM_deep] at hd'
    rw [h1] at hf
    unfold fuelOf at hf
    simp only [List.length_cons] at hf
    rw [List.append_assoc, accL_join]
    exact hany t f n d (by omega) (by omega) (by omega)
theorem obj_txt {ps : List Mem} (hne : ps ≠ []) (hp : ∀ p ∈ ps, MemT true p) (hk : (ps.map Mem.k).Nodup) (hl : (accL 123 (ps.map Mem.piece)).length ≤ 1048575) (hn : 1 + (J.flats (jsM ps)).length ≤ 4000) (hd : 1 + J.deeps (jsM ps) ≤ 64) : Txt (accL 123 (ps.map Mem.piece) ++ [125]) (objM ps) := by
  have ho : ∀ p ∈ ps, p.Ok := fun p h => (hp p h).ok
  have h1 := accL_join 123 [125] (ps.map Mem.piece)
  have h2 := congrArg List.length h1
  simp only [List.length_append, List.length_cons, List.length_nil] at h2
  refine ⟨?_, ?_, ?_, ?_⟩
  · exact objM_parse ho hk hl hn hd
  · rw [h1]; rfl
  · intro x y hx hy f n d hf hn' hd'
    rw [h1] at hx
    rw [objM_len] at hn'
    rw [objM_deep] at hd'
    exact .inl (open_cut true ps hne hp (fun _ => hk) x y f n d hx hy hf (by omega) (by omega))
  · intro _ t f n d hf hn' hd'
    rw [objM_len] at hn'
    rw [objM_deep] at hd'
    rw [h1] at hf
    unfold fuelOf at hf
    simp only [List.length_cons] at hf
    rw [List.append_assoc, accL_join]
    exact pv_obj t ps ho hk f n d (by omega) (by simp only [jsM] at hn'; omega) (by simp only [jsM] at hd'; omega)
theorem none_txt (obj : Bool) {b : List UInt8} (hb : Blanks b) (hl : b.length ≤ 100) : Txt (openOf obj :: b ++ [lastOf obj]) (.mk ⟨kindOf obj, none_, 0, none_⟩ []) := by
  have hend : ∀ t, endV obj (b ++ lastOf obj :: t) = (true, t) := fun t => by
    unfold endV
    rw [hb.skip]
    cases obj <;> rfl
  have hany : ∀ t f n d, 1 ≤ f → n + 1 ≤ 4000 → d + 1 ≤ 64 → pv f n d (openOf obj :: (b ++ lastOf obj :: t)) = .ok (.mk ⟨kindOf obj, none_, 0, none_⟩ [], t) := fun t f n d a1 a2 a3 => by
    obtain ⟨g, rfl⟩ : ∃ g, f = g + 1 := ⟨f - 1, by omega⟩
    rw [pv_open _ _ _ _ _ (by omega) (by omega), hend]
  have hfl : (J.flat (.mk ⟨kindOf obj, none_, 0, none_⟩ [])).length = 1 := by simp [J.flat, J.flats]
  have hdp : (J.mk ⟨kindOf obj, none_, 0, none_⟩ []).deep = 1 := by simp [J.deep, J.deeps]
  rw [List.cons_append]
  refine ⟨?_, skip_open _ _, ?_, ?_⟩
  · exact parse_of_pv (by simp only [List.length_cons, List.length_append, List.length_nil]; omega) (skip_open _ _) (hany [] _ 0 0 (by unfold fuelOf; omega) (by omega) (by omega))
  · intro x y hx hy f n d hf hn' hd'
    rw [hfl] at hn'
    rw [hdp] at hd'
    exact .inl (open_cut_none obj b hb x y f n d hx hy hf hn' hd')
  · intro _ t f n d hf hn' hd'
    rw [hfl] at hn'
    rw [hdp] at hd'
    rw [List.cons_append, List.append_assoc]
    exact hany t f n d (by unfold fuelOf at hf; omega) hn' hd'
end Go.Proofs.YtcddfpcapbdphaaGreatDoor

/-! ### The leaves' texts: words, literals, numbers; each cut off. Plain laws. -/
namespace Go.Proofs.YtcddfpcapbdphaaGreatDoor
open Go.Lib (decDigits itoa)

theorem pv_leaf {f n d : Nat} {c : UInt8} {r : List UInt8} (hb : begB c = true) (h1 : c ≠ 91) (h2 : c ≠ 123) (hn : n < 4000) (hd : d < 64) : pv (f + 1) n d (c :: r) = leafV c (c :: r) := by
  rw [pv]
  rw [if_neg (by rw [hb]; decide), if_neg (by omega), if_neg (by omega), if_neg (by rintro (h | h); exact h1 h; exact h2 h)]
theorem one_len (k n : Int) (s : ByteArray) : (oneJ k n s).flat.length = 1 := by simp [oneJ, J.flat, J.flats]
theorem one_deep (k n : Int) (s : ByteArray) : (oneJ k n s).deep = 1 := by simp [oneJ, J.deep, J.deeps]
theorem leaf_txt {c : UInt8} {r : List UInt8} {k n : Int} {s : ByteArray} (hb : begB c = true) (h1 : c ≠ 91) (h2 : c ≠ 123) (hs : isBlank c = false) (hl : r.length ≤ 1000) (h : leafV c (c :: r) = .ok (oneJ k n s, []))
    (hany : k ≠ 4 → ∀ t, leafV c (c :: (r ++ t)) = .ok (oneJ k n s, t)) (hcut : ∀ p q, r = p ++ q → q ≠ [] → Cut (c :: p) (leafV c (c :: p)) ∨ (k = 4 ∧ ∃ j', leafV c (c :: p) = .ok (j', []))) : Txt (c :: r) (oneJ k n s) := by
  have hsk : ∀ t, skipB (c :: t) = c :: t := fun t => by simp only [skipB]; rw [if_neg (by rw [hs]; decide)]
  refine ⟨?_, hsk r, ?_, ?_⟩
  · refine parse_of_pv (by simp only [List.length_cons]; omega) (hsk r) ?_
    unfold fuelOf
    rw [pv_leaf hb h1 h2 (by omega) (by omega), h]
  · intro x y hx hy f n' d hf hn hd
    rw [one_len] at hn
    rw [one_deep] at hd
    obtain ⟨g, rfl⟩ : ∃ g, f = g + 1 := ⟨f - 1, by omega⟩
    rcases x with _ | ⟨c', x⟩
    · rw [pv_nil]
      exact .inl (.inl rfl)
    · simp only [List.cons_append, List.cons.injEq] at hx
      obtain ⟨rfl, hx⟩ := hx
      rw [pv_leaf hb h1 h2 (by omega) (by omega)]
      exact hcut x y hx hy
  · intro hk t f n' d hf hn hd
    rw [one_len] at hn
    rw [one_deep] at hd
    unfold fuelOf at hf
    obtain ⟨g, rfl⟩ : ∃ g, f = g + 1 := ⟨f - 1, by omega⟩
    rw [List.cons_append, pv_leaf hb h1 h2 (by omega) (by omega)]
    exact hany hk t
/-! ### words -/
theorem word_cut : ∀ (w p q : List UInt8), w = p ++ q → q ≠ [] → wordV w p = .error ([], 70)
  | [], p, q, h, hq => by
    have := congrArg List.length h
    simp only [List.length_nil, List.length_append] at this
    exact absurd (List.eq_nil_of_length_eq_zero (by omega)) hq
  | x :: w, [], _, _, _ => rfl
  | x :: w, c :: p, q, h, hq => by
    simp only [List.cons_append, List.cons.injEq] at h
    obtain ⟨rfl, h⟩ := h
    simp only [wordV]
    rw [if_pos trivial, word_cut w p q h hq]
theorem null_txt : Txt [110, 117, 108, 108] (oneJ 1 0 none_) := by
  refine leaf_txt (by decide) (by decide) (by decide) (by decide) (by decide) rfl (fun _ t => rfl) (fun p q h hq => .inl ?_)
  rw [show leafV 110 (110 :: p) = match wordV [110, 117, 108, 108] (110 :: p) with | .error b => .error b | .ok r => .ok (oneJ 1 0 none_, r) from rfl, word_cut [110, 117, 108, 108] (110 :: p) q (by rw [h]; rfl) hq]
  exact .inl rfl
theorem false_txt : Txt [102, 97, 108, 115, 101] (oneJ 2 0 none_) := by
  refine leaf_txt (by decide) (by decide) (by decide) (by decide) (by decide) rfl (fun _ t => rfl) (fun p q h hq => .inl ?_)
  rw [show leafV 102 (102 :: p) = match wordV [102, 97, 108, 115, 101] (102 :: p) with | .error b => .error b | .ok r => .ok (oneJ 2 0 none_, r) from rfl, word_cut [102, 97, 108, 115, 101] (102 :: p) q (by rw [h]; rfl) hq]
  exact .inl rfl
theorem true_txt : Txt [116, 114, 117, 101] (oneJ 3 0 none_) := by
  refine leaf_txt (by decide) (by decide) (by decide) (by decide) (by decide) rfl (fun _ t => rfl) (fun p q h hq => .inl ?_)
  rw [show leafV 116 (116 :: p) = match wordV [116, 114, 117, 101] (116 :: p) with | .error b => .error b | .ok r => .ok (oneJ 3 0 none_, r) from rfl, word_cut [116, 114, 117, 101] (116 :: p) q (by rw [h]; rfl) hq]
  exact .inl rfl
/-! ### literals -/
/-- a literal that has no end, wherever it is cut off -/
def cutsOk (l : List UInt8) : Bool := (List.range l.length).all fun k => k == 0 || (match unqV (l.take k) with | .error e => e == 3 | .ok _ => false)
theorem lit_cut {r p q : List UInt8} (hc : cutsOk (34 :: r) = true) (h : r = p ++ q) (hq : q ≠ []) : litV (34 :: p) = .error (34 :: p, 3) := by
  have hk : p.length + 1 < (34 :: r).length := by
    have : q.length ≠ 0 := fun h => hq (List.eq_nil_of_length_eq_zero h)
    rw [h]; simp only [List.length_cons, List.length_append]; omega
  have h1 := List.all_eq_true.1 hc (p.length + 1) (List.mem_range.2 hk)
  have ht : (34 :: r).take (p.length + 1) = 34 :: p := by rw [h]; simp
  rw [ht] at h1
  simp only [Bool.or_eq_true, beq_iff_eq] at h1
  have h2 := h1.resolve_left (by omega)
  unfold litV
  simp only
  rw [if_neg (by decide)]
  split at h2
  · rename_i e he
    rw [he]
    simp only
    rw [show e = 3 by simpa using h2]
  · cases h2
theorem lit_txt {r s : List UInt8} (hl : r.length ≤ 1000) (h : litV (34 :: r) = .ok (s, [])) (hc : cutsOk (34 :: r) = true) : Txt (34 :: r) (oneJ 5 0 (bT s)) := by
  have hlf : ∀ x, leafV 34 (34 :: x) = match litV (34 :: x) with | .error b => .error b | .ok (s, r) => .ok (oneJ 5 0 (bT s), r) := fun x => rfl
  refine leaf_txt (by decide) (by decide) (by decide) (by decide) hl (by rw [hlf, h]) (fun _ t => ?_) (fun p q hp hq => .inl ?_)
  · rw [hlf, ← List.cons_append, litV_loc h]
    rfl
  · rw [hlf, lit_cut hc hp hq]
    exact .inr ⟨[], p, rfl, rfl⟩
/-! ### numbers -/
theorem decV_pre (D1 : List UInt8) : ∀ D2 : List UInt8, decV D1 ≤ decV (D1 ++ D2) := by
  intro D2
  have e : decV (D1 ++ D2) = decOn (decV D1) D2 := by
    unfold decV decOn
    rw [List.foldl_append]
    rfl
  rw [e]
  refine Nat.le_trans ?_ (decOn_ge D2 (decV D1))
  exact Nat.le_mul_of_pos_right _ (Nat.pow_pos (by decide))
theorem form_pre {D1 D2 : List UInt8} (h : D1 ++ D2 = [48] ∨ ∃ d D', D1 ++ D2 = d :: D' ∧ d ≠ 48) (h1 : D1 ≠ []) : D1 = [48] ∨ ∃ d D', D1 = d :: D' ∧ d ≠ 48 := by
  obtain ⟨d, D', rfl⟩ := List.exists_cons_of_ne_nil h1
  rcases h with h | ⟨e, E, h, he⟩
  · simp only [List.cons_append, List.cons.injEq, List.append_eq_nil_iff] at h
    exact .inl (by rw [h.1, h.2.1])
  · simp only [List.cons_append, List.cons.injEq] at h
    exact .inr ⟨d, D', rfl, by rw [h.1]; exact he⟩
theorem num_leaf {neg : Bool} {D : List UInt8} (hD : ∀ d ∈ D, isDig d = true) (hf : D = [48] ∨ ∃ d D', D = d :: D' ∧ d ≠ 48) (hv : -9223372036854775808 ≤ signed neg (decV D) ∧ signed neg (decV D) ≤ 9223372036854775807) : ∃ c t, signD neg D = c :: t ∧ begB c = true ∧ c ≠ 91 ∧ c ≠ 123 ∧ isBlank c = false ∧ leafV c (c :: t) = .ok (oneJ 4 (signed neg (decV D)) none_, []) := by
  have hne : D ≠ [] := by rcases hf with rfl | ⟨d, D', rfl, _⟩ <;> simp
  obtain ⟨c, t, hc, h1, h2, h3, h4, h5, h6⟩ := num_head (r := []) (neg := neg) hD hne
  rw [List.append_nil] at hc
  refine ⟨c, t, hc, h2, h3, h4, ?_, ?_⟩
  · simp only [skipB] at h1
    by_cases hb : isBlank c = true
    · rw [if_pos hb] at h1
      have := congrArg List.length h1
      have h7 := skipB_len t
      simp only [List.length_cons] at this
      omega
    · simpa using hb
  · have hn := num_whole (neg := neg) (r := []) hD trivial hf
    rw [List.append_nil, hc] at hn
    rw [h6, hn]
    simp only [fracV, opt1, expV, opt2]
    rw [if_neg (by simp; omega)]
theorem num_txt {neg : Bool} {D : List UInt8} (hD : ∀ d ∈ D, isDig d = true) (hf : D = [48] ∨ ∃ d D', D = d :: D' ∧ d ≠ 48) (hv : -9223372036854775808 ≤ signed neg (decV D) ∧ signed neg (decV D) ≤ 9223372036854775807) (hl : D.length ≤ 100) : Txt (signD neg D) (oneJ 4 (signed neg (decV D)) none_) := by
  obtain ⟨c, t, hc, h2, h3, h4, h5, h6⟩ := num_leaf hD hf hv
  have hlen : t.length + 1 ≤ 101 := by
    have := congrArg List.length hc
    rw [List.length_cons] at this
    unfold signD at this
    rw [List.length_append] at this
    cases neg <;> simp at this <;> omega
  have hc' := hc
  rw [hc]
  refine leaf_txt h2 h3 h4 h5 (by omega) h6 (fun h => absurd rfl h) (fun p q hp hq => ?_)
  have key : ∀ (ng : Bool) (D1 : List UInt8), c :: p = signD ng D1 → D1 ≠ [] → ng = neg → D = D1 ++ q → Cut (c :: p) (leafV c (c :: p)) ∨ ((4 : Int) = 4 ∧ ∃ j', leafV c (c :: p) = .ok (j', [])) := by
    rintro ng D1 e1 e2 rfl e3
    have g1 : ∀ d ∈ D1, isDig d = true := fun d hd => hD d (by rw [e3]; exact List.mem_append_left _ hd)
    have g3 := decV_pre D1 q
    rw [← e3] at g3
    obtain ⟨c', t', k1, _, _, _, _, k2⟩ := num_leaf (neg := ng) g1 (form_pre (by rw [← e3]; exact hf) e2) (by
      unfold signed at hv ⊢
      cases ng <;> simp at hv ⊢ <;> omega)
    rw [← e1] at k1
    simp only [List.cons.injEq] at k1
    obtain ⟨rfl, rfl⟩ := k1
    exact .inr ⟨rfl, _, k2⟩
  rw [hp] at hc
  cases neg with
  | true =>
    simp only [signD, if_true, List.cons_append, List.nil_append, List.cons.injEq] at hc
    obtain ⟨rfl, hc⟩ := hc
    cases p with
    | nil => exact .inl (.inl rfl)
    | cons d p => exact key true (d :: p) rfl (by simp) rfl hc
  | false =>
    simp only [signD, Bool.false_eq_true, if_false, List.nil_append] at hc
    exact key false (c :: p) rfl (by simp) rfl (by rw [hc]; rfl)
theorem itoa_txt (n : Int) (h0 : -9223372036854775808 ≤ n) (h1 : n ≤ 9223372036854775807) : Txt (itoa n) (oneJ 4 n none_) := by
  have h := num_txt (neg := decide (n < 0)) (dec_all n.natAbs) (dec_form _) (by rw [signed_dec]; exact ⟨h0, h1⟩) (by
    have := Lib.itoa_length_le n h0 h1
    rw [itoa_sign] at this
    unfold signD at this
    rw [List.length_append] at this
    omega)
  rw [signed_dec, ← itoa_sign] at h
  exact h
theorem minus_txt : Txt [45, 48] (oneJ 4 0 none_) := num_txt (neg := true) (D := [48]) (by decide) (.inl rfl) (by decide) (by decide)
end Go.Proofs.YtcddfpcapbdphaaGreatDoor

/-! ### The statements' own words, and how they are spelt; keys. Plain laws. -/
namespace Go.Proofs.YtcddfpcapbdphaaGreatDoor

def says : List ByteArray := [⟨#[]⟩, ⟨#[97]⟩, ⟨#[98, 32, 99]⟩, ⟨#[34]⟩, ⟨#[195, 164]⟩, ⟨#[240, 159, 152, 128]⟩, ⟨#[47]⟩, ⟨#[0]⟩]
def spells : List ByteArray := [⟨#[34, 34]⟩, ⟨#[34, 92, 117, 48, 48, 54, 49, 34]⟩, ⟨#[34, 98, 32, 99, 34]⟩, ⟨#[34, 92, 34, 34]⟩, ⟨#[34, 92, 117, 48, 48, 69, 52, 34]⟩, ⟨#[34, 92, 117, 100, 56, 51, 100, 92, 117, 100, 101, 48, 48, 34]⟩, ⟨#[34, 92, 47, 34]⟩, ⟨#[34, 92, 117, 48, 48, 48, 48, 34]⟩]
/-- a word, and a literal that says it -/
def wordsAll : List (ByteArray × ByteArray) := says.zip spells ++ says.map fun s => (s, ⟨(quoteL s).toArray⟩)
def litIs (l s : List UInt8) : Bool := match litV l with | .ok (t, r) => t == s && r.isEmpty | .error _ => false
/-- a literal without its end, a digit, and the end -/
def keyLit (q : List UInt8) (i : Nat) : List UInt8 := q.take (q.length - 1) ++ [UInt8.ofNat (48 + i), 34]
def startQ (l : List UInt8) : Bool := match l with | c :: _ => c == 34 | [] => false
def litGood (l s : List UInt8) : Bool := litIs l s && cutsOk l && startQ l && decide (l.length ≤ 15) && vU (bT s)
def wordGood (p : ByteArray × ByteArray) : Bool := litGood p.2.data.toList p.1.data.toList && decide (2 ≤ p.2.size) && decide (p.2.size ≤ 14) && decide (p.1.size ≤ 4) && (List.range 5).all fun i => litGood (keyLit p.2.data.toList i) (p.1.data.toList ++ [UInt8.ofNat (48 + i)])
theorem words_good : (wordsAll.all wordGood) = true := by kernel_rfl
structure Lit (l s : List UInt8) : Prop where
  lit : litV l = .ok (s, [])
  cuts : cutsOk l = true
  q : ∃ r, l = 34 :: r
  len : l.length ≤ 15
  may : vU (bT s) = true
theorem lit_of {l s : List UInt8} (h : litGood l s = true) : Lit l s := by
  unfold litGood at h
  simp only [Bool.and_eq_true, decide_eq_true_eq] at h
  obtain ⟨⟨⟨⟨h1, h2⟩, h3⟩, h4⟩, h5⟩ := h
  refine ⟨?_, h2, ?_, h4, h5⟩
  · unfold litIs at h1
    split at h1
    · rename_i t r e
      simp only [Bool.and_eq_true, beq_iff_eq, List.isEmpty_iff] at h1
      rw [e, h1.1, h1.2]
    · cases h1
  · unfold startQ at h3
    split at h3
    · rename_i c r
      exact ⟨r, by rw [show c = 34 by simpa using h3]⟩
    · cases h3
theorem word_lit {s q : ByteArray} (h : (s, q) ∈ wordsAll) : Lit q.data.toList s.data.toList ∧ 2 ≤ q.size ∧ q.size ≤ 14 ∧ s.size ≤ 4 ∧ ∀ i, i < 5 → Lit (keyLit q.data.toList i) (s.data.toList ++ [UInt8.ofNat (48 + i)]) := by
  have h1 := List.all_eq_true.1 words_good _ h
  unfold wordGood at h1
  simp only [Bool.and_eq_true, decide_eq_true_eq] at h1
  obtain ⟨⟨⟨⟨h1, h2⟩, h3⟩, h4⟩, h5⟩ := h1
  exact ⟨lit_of h1, h2, h3, h4, fun i hi => lit_of (List.all_eq_true.1 h5 i (List.mem_range.2 hi))⟩
theorem Lit.txt {l s : List UInt8} (h : Lit l s) : Txt l (oneJ 5 0 (bT s)) := by
  obtain ⟨r, rfl⟩ := h.q
  exact lit_txt (by have := h.len; simp only [List.length_cons] at this; omega) h.lit h.cuts
theorem Lit.key {l s b0 b1 : List UInt8} (h : Lit l s) (hb0 : Blanks b0) (hb1 : Blanks b1) : KeyTxt (b0 ++ (l ++ (b1 ++ [58]))) s := by
  obtain ⟨r0, hr0⟩ := h.q
  have hsk : ∀ t, skipB (l ++ t) = l ++ t := fun t => by rw [hr0]; rfl
  refine ⟨fun had r hh => ?_, fun p q hpq hq had hh => .inl ?_⟩
  · unfold keyV
    rw [if_neg (by decide), List.append_assoc, hb0.skip, List.append_assoc, hsk, litV_loc h.lit]
    simp only [List.nil_append, List.append_assoc]
    rw [if_neg (by rw [hasKey_not.2 hh]; decide), hb1.skip]
    rfl
  · unfold keyV
    rw [if_neg (by decide)]
    rcases app_cut hpq with ⟨c, _, e⟩ | ⟨p1, rfl, h1⟩
    · rw [(hb0.pre e).none]
      exact .inl rfl
    rw [hb0.skip]
    rcases app_cut h1 with ⟨c, hc, e⟩ | ⟨p2, rfl, h2⟩
    · rcases p1 with _ | ⟨c1, p1⟩
      · exact .inl rfl
      · rw [hr0] at e
        simp only [List.cons_append, List.cons.injEq] at e
        obtain ⟨rfl, e⟩ := e
        rw [show skipB (34 :: p1) = 34 :: p1 from rfl, lit_cut (r := r0) (by rw [← hr0]; exact h.cuts) e hc]
        exact .inr ⟨b0, p1, rfl, rfl⟩
    · rw [hsk, litV_loc h.lit]
      simp only [List.nil_append]
      rw [if_neg (by rw [hasKey_not.2 hh]; decide)]
      have hp2 : Blanks p2 := by
        rcases app_cut h2 with ⟨c, _, e⟩ | ⟨x', rfl, h3⟩
        · exact hb1.pre e
        · have := congrArg List.length h3
          simp only [List.length_cons, List.length_nil, List.length_append] at this
          have hy0 : q.length ≠ 0 := fun h => hq (List.eq_nil_of_length_eq_zero h)
          have : x' = [] := List.eq_nil_of_length_eq_zero (by omega)
          rw [this, List.append_nil]
          exact hb1
      rw [hp2.none]
      exact .inl rfl
end Go.Proofs.YtcddfpcapbdphaaGreatDoor

/-! ### The parts that a seed's value is made of, and their text: plain laws. -/
namespace Go.Proofs.YtcddfpcapbdphaaGreatDoor

theorem bT_len (l : List UInt8) : (bT l).size = l.length := by simp [bT, ByteArray.size]
/-- what stands ahead of one more part -/
def preT (ps : List Mem) (T : List UInt8) : List UInt8 := if ps = [] then [] else T ++ [44]
structure KidsJ (obj : Bool) (deep n0 i m : Nat) (ps : List Mem) (T : List UInt8) : Prop where
  mem : ∀ p ∈ ps, MemT obj p
  zero : ps = [] → Blanks T ∧ T.length ≤ 3
  more : ps ≠ [] → ∀ c, c :: T = accL c (ps.map Mem.piece)
  deeps : J.deeps (jsM ps) + deep ≤ 7
  len : ps.length + i ≤ 4
  size : (J.flats (jsM ps)).length + 2 * m + 4 ≤ ps.length + 2 * n0
  left : m ≤ n0
  keys : obj = true → ∀ x (h : x < ps.length), ∃ s, (ps[x]).k = s ++ [UInt8.ofNat (48 + x)]
  valid : obj = true → ∀ p ∈ ps, vU p.key = true ∧ p.key.size ≤ 5
  tlen : T.length ≤ 3 + 64 * (J.flats (jsM ps)).length
theorem KidsJ.start {obj : Bool} {deep n0 i m : Nat} {T : List UInt8} (hT : Blanks T) (hl : T.length ≤ 3) (hd : deep ≤ 7) (hi : i ≤ 4) (hm : m + 2 ≤ n0) : KidsJ obj deep n0 i m [] T where
  mem := by simp
  zero _ := ⟨hT, hl⟩
  more h := absurd rfl h
  deeps := by simp only [jsM, List.map_nil, J.deeps]; omega
  len := by simpa using hi
  size := by simp only [jsM, List.map_nil, J.flats, List.length_nil]; omega
  left := by omega
  keys _ x h := by simp at h
  valid _ p h := by simp at h
  tlen := by omega
/-- the key of one more part, and the blanks behind it -/
structure HeadJ (obj : Bool) (x : Nat) (kt k : List UInt8) : Prop where
  key : obj = true → KeyTxt kt k ∧ vU (bT k) = true ∧ ∃ s, k = s ++ [UInt8.ofNat (48 + x)] ∧ s.length ≤ 4
  nokey : obj = false → kt = []
  len : kt.length ≤ 22
theorem KidsJ.next {obj : Bool} {deep n0 i m m1 m2 m' : Nat} {ps : List Mem} {T kt k lead v b3 : List UInt8} {j : J} (h : KidsJ obj deep n0 (i + 1) m ps T) (hh : HeadJ obj ps.length kt k) (hl : Blanks lead) (hl3 : lead.length ≤ 3) (hb : Blanks b3) (hb3 : b3.length ≤ 3) (hv : Txt v j) (hv64 : v.length + 40 ≤ 64 * j.flat.length)
    (hd : j.deep + (deep + 1) ≤ 8) (h1 : m1 ≤ m) (h2 : j.flat.length + 2 * m2 ≤ 1 + 2 * m1) (h3 : m' ≤ m2) : KidsJ obj deep n0 i m' (ps ++ [⟨kt, k, lead ++ (v ++ b3), j⟩]) (preT ps T ++ (kt ++ (lead ++ (v ++ b3)))) where
  mem := by
    intro p hp
    rcases List.mem_append.1 hp with hp | hp
    · exact h.mem p hp
    · rw [List.mem_singleton.1 hp]
      have hm := (txt_may hv.val).1
      refine ⟨⟨lead, v, b3, rfl, hl, hb, hv⟩, ?_, fun ho => (hh.key ho).1, hh.nokey⟩
      simp only [List.length_append]
      omega
  zero h := by simp at h
  more _ c := by
    rw [List.map_append, List.map_cons, List.map_nil, accL_snoc]
    by_cases hp : ps = []
    · subst hp
      rfl
    · rw [if_neg (by simpa using hp), ← h.more hp c]
      unfold preT
      rw [if_neg hp]
      simp [Mem.piece]
  deeps := by
    have := h.deeps
    simp only [jsM, List.map_append, List.map_cons, List.map_nil] at this ⊢
    rw [deeps_append]
    simp only [J.deeps]
    omega
  len := by have := h.len; simp; omega
  size := by
    have := h.size
    simp only [jsM, List.map_append, List.map_cons, List.map_nil] at this ⊢
    rw [flats_append, flats_one, List.length_append]
    simp only [List.length_append, List.length_cons, List.length_nil]
    omega
  left := by have := h.left; have := flat_pos j; omega
  keys ho x hx := by
    rcases Nat.lt_or_ge x ps.length with hlt | hge
    · obtain ⟨s, hs⟩ := h.keys ho x hlt
      exact ⟨s, by rw [List.getElem_append_left hlt]; exact hs⟩
    · have e : x = ps.length := by simp at hx; omega
      subst e
      obtain ⟨s, hs, _⟩ := (hh.key ho).2.2
      exact ⟨s, by simpa using hs⟩
  valid ho p hp := by
    rcases List.mem_append.1 hp with hp | hp
    · exact h.valid ho p hp
    · rw [List.mem_singleton.1 hp]
      obtain ⟨a1, a2, s, hs, hl⟩ := hh.key ho
      refine ⟨a2, ?_⟩
      show (bT k).size ≤ 5
      rw [hs, bT_len, List.length_append, List.length_cons, List.length_nil]
      omega
  tlen := by
    have := h.tlen
    have := hh.len
    have hp : (preT ps T).length ≤ T.length + 1 := by
      unfold preT
      split <;> simp
    simp only [jsM, List.map_append, List.map_cons, List.map_nil] at this ⊢
    rw [flats_append, flats_one]
    simp only [List.length_append]
    simp only [jsM] at *
    omega
theorem KidsJ.tsize {obj : Bool} {deep n0 i m : Nat} {ps : List Mem} {T : List UInt8} (h : KidsJ obj deep n0 i m ps T) (hn : n0 ≤ 150) : T.length ≤ 20000 := by
  have h1 := h.size
  have h2 := h.len
  have h4 := h.tlen
  omega
theorem digit_inj {x y : Nat} (hx : x < 5) (hy : y < 5) (h : UInt8.ofNat (48 + x) = UInt8.ofNat (48 + y)) : x = y := by
  have h1 := congrArg UInt8.toNat h
  simp at h1
  omega
theorem KidsJ.nodup {deep n0 i m : Nat} {ps : List Mem} {T : List UInt8} (h : KidsJ true deep n0 i m ps T) : (ps.map Mem.k).Nodup := by
  refine List.pairwise_iff_getElem.2 fun a b ha hb hab e => ?_
  simp only [List.length_map] at ha hb
  simp only [List.getElem_map] at e
  obtain ⟨s, hs⟩ := h.keys rfl a ha
  obtain ⟨t, ht⟩ := h.keys rfl b hb
  rw [hs, ht] at e
  have e2 := congrArg List.getLast? e
  simp only [List.getLast?_append, List.getLast?_singleton, Option.some_or, Option.some.injEq] at e2
  have hl := h.len
  have := digit_inj (by omega) (by omega) e2
  omega
theorem KidsJ.listEnd {deep n0 i m : Nat} {ps : List Mem} {T : List UInt8} (h : KidsJ false deep n0 i m ps T) (hn : n0 ≤ 150) :
    Txt (91 :: (T ++ [93])) (listM ps) ∧ ListT (rowsM ps) (listM ps).flat 0 ∧ (listM ps).flat.length + 2 * m ≤ 1 + 2 * n0 ∧ (listM ps).deep + deep ≤ 8 ∧ (91 :: (T ++ [93])).length + 40 ≤ 64 * (listM ps).flat.length := by
  have h1 := h.size
  have h2 := h.len
  have h3 := h.deeps
  have h4 := h.tlen
  have hp : ∀ p ∈ ps, parseV p.l = .ok p.j := fun p hp => parse_mid (h.mem p hp).mid (h.mem p hp).len
  refine ⟨?_, listM_say hp (by omega) (by omega), by rw [listM_len]; omega, by rw [listM_deep]; omega, by rw [listM_len]; simp only [List.length_cons, List.length_append, List.length_nil]; omega⟩
  by_cases he : ps = []
  · subst he
    obtain ⟨z1, z2⟩ := h.zero rfl
    exact none_txt false z1 (by omega)
  · rw [← List.cons_append, h.more he 91]
    refine list_txt he h.mem ?_ (by omega) (by omega)
    rw [← h.more he 91, List.length_cons]
    omega
theorem KidsJ.objEnd {deep n0 i m : Nat} {ps : List Mem} {T : List UInt8} (h : KidsJ true deep n0 i m ps T) (hn : n0 ≤ 150) :
    Txt (123 :: (T ++ [125])) (objM ps) ∧ ObjT (keysM ps) (rowsM ps) (objM ps).flat 0 ∧ (objM ps).flat.length + 2 * m ≤ 1 + 2 * n0 ∧ (objM ps).deep + deep ≤ 8 ∧ (123 :: (T ++ [125])).length + 40 ≤ 64 * (objM ps).flat.length := by
  have h1 := h.size
  have h2 := h.len
  have h3 := h.deeps
  have h4 := h.tlen
  have hp : ∀ p ∈ ps, p.Ok := fun p hp => (h.mem p hp).ok
  refine ⟨?_, objM_say hp h.nodup (fun p hp => (h.valid rfl p hp).1) (by omega) (by omega), by rw [objM_len]; omega, by rw [objM_deep]; omega, by rw [objM_len]; simp only [List.length_cons, List.length_append, List.length_nil]; omega⟩
  by_cases he : ps = []
  · subst he
    obtain ⟨z1, z2⟩ := h.zero rfl
    exact none_txt true z1 (by omega)
  · rw [← List.cons_append, h.more he 123]
    refine obj_txt he h.mem h.nodup ?_ (by omega) (by omega)
    rw [← h.more he 123, List.length_cons]
    omega
/-- one more part's key -/
theorem head_none (x : Nat) (k : List UInt8) : HeadJ false x [] k := ⟨fun h => (by cases h), fun _ => rfl, by simp⟩
theorem head_key {s q : ByteArray} (h : (s, q) ∈ wordsAll) {x : Nat} (hx : x < 5) {b0 b1 : List UInt8} (h0 : Blanks b0) (h03 : b0.length ≤ 3) (h1 : Blanks b1) (h13 : b1.length ≤ 3) : HeadJ true x (b0 ++ (keyLit q.data.toList x ++ (b1 ++ [58]))) (s.data.toList ++ [UInt8.ofNat (48 + x)]) := by
  have hl := (word_lit h).2.2.2.2 x hx
  refine ⟨fun _ => ⟨hl.key h0 h1, hl.may, _, rfl, by rw [list_size]; exact (word_lit h).2.2.2.1⟩, (fun h => by cases h), ?_⟩
  have := hl.len
  simp only [List.length_append, List.length_cons, List.length_nil]
  omega
end Go.Proofs.YtcddfpcapbdphaaGreatDoor

