/- Texts of values with commas between them, in brackets: plain laws. -/
import Derived.Test.YtcddfpcapbdphaaDoorLocV
import Derived.Test.YtcddfpcapbdphaaDoorMayL
import Derived.Test.YtcddfpcapbdphaaDoorObj
/-! ### Texts of values with commas between them, in brackets: plain laws. -/
namespace Go.Proofs.YtcddfpcapbdphaaDoor

theorem skip_all {r t : List UInt8} (h : skipB r = []) : skipB (r ++ t) = skipB t := by
  induction r with
  | nil => rfl
  | cons c r ih =>
    simp only [skipB, List.cons_append] at h ⊢
    split
    · rename_i hb
      rw [if_pos hb] at h
      exact ih h
    · rename_i hb
      rw [if_neg hb] at h
      cases h
/-- a text that is a value, among others -/
theorem parse_in {l t : List UInt8} {j : J} {n d g : Nat} (h : parseV l = .ok j) (ht : Free t) (hn : n + j.flat.length ≤ 4000) (hd : d + j.deep ≤ 64) :
    ∃ r, skipB r = [] ∧ skipB l ≠ [] ∧ pv (fuelOf l + g) n d (skipB l ++ t) = .ok (j, r ++ t) := by
  unfold parseV at h
  split at h
  · cases h
  split at h
  · cases h
  rename_i j' r hp
  split at h
  · rename_i hr
    injection h with h
    subst h
    refine ⟨r, hr, ?_, (loc_both _).1 g _ _ n d _ _ t _ hp ht hn hd⟩
    intro e
    rw [e] at hp
    unfold fuelOf at hp
    simp only [pv] at hp
    cases hp
  · cases h
/-- texts with commas between them, and what stands behind them -/
def joinL (e : List UInt8) : List (List UInt8) → List UInt8
  | [] => e
  | [l] => l ++ e
  | l :: m :: ls => l ++ 44 :: joinL e (m :: ls)
theorem pp_join (t0 : List UInt8) : ∀ (ps : List (List UInt8 × J)), ps ≠ [] → (∀ p ∈ ps, parseV p.1 = .ok p.2) → ∀ f n d : Nat, 2 * (joinL [93] (ps.map (·.1))).length + 1 ≤ f → n + (J.flats (ps.map (·.2))).length ≤ 4000 → d + J.deeps (ps.map (·.2)) ≤ 64 →
    pp f false n d [] (joinL (93 :: t0) (ps.map (·.1))) = .ok (ps.map fun p => p.2.rekey none_, t0)
  | [], h, _, _, _, _, _, _, _ => absurd rfl h
  | [p], _, hp, f, n, d, hf, hn, hd => by
    simp only [List.map_cons, List.map_nil, joinL] at hf ⊢
    simp only [List.map_cons, List.map_nil, flats_one] at hn
    simp only [List.map_cons, List.map_nil, J.deeps] at hd
    simp only [List.length_append, List.length_cons, List.length_nil] at hf
    obtain ⟨f, rfl⟩ : ∃ k, f = k + 1 := ⟨f - 1, by omega⟩
    obtain ⟨r, h1, h2, h3⟩ := parse_in (t := 93 :: t0) (n := n) (d := d) (g := f - fuelOf p.1) (hp p (List.mem_cons_self ..)) ⟨by decide, by decide, by decide, by decide⟩ hn (by omega)
    rw [show fuelOf p.1 + (f - fuelOf p.1) = f by unfold fuelOf; omega] at h3
    simp only [pp, keyV]
    rw [if_pos trivial]
    simp only
    rw [skip_loc h2, h3]
    simp only
    have hm : moreV false (r ++ 93 :: t0) = .ok (false, t0) := by
      unfold moreV
      rw [skip_all h1]
      rfl
    rw [hm]
  | p :: q :: ps, _, hp, f, n, d, hf, hn, hd => by
    have ih := pp_join t0 (q :: ps) (by simp) (fun x hx => hp x (List.mem_cons_of_mem _ hx))
    simp only [List.map_cons, joinL] at hf ih ⊢
    simp only [List.map_cons, flats_cons, List.length_append] at hn ih
    simp only [List.map_cons, J.deeps] at hd ih
    simp only [List.length_append, List.length_cons] at hf
    obtain ⟨f, rfl⟩ : ∃ k, f = k + 1 := ⟨f - 1, by omega⟩
    obtain ⟨r, h1, h2, h3⟩ := parse_in (t := 44 :: joinL (93 :: t0) (q.1 :: ps.map (·.1))) (n := n) (d := d) (g := f - fuelOf p.1) (hp p (List.mem_cons_self ..)) ⟨by decide, by decide, by decide, by decide⟩ (by omega) (by omega)
    rw [show fuelOf p.1 + (f - fuelOf p.1) = f by unfold fuelOf; omega] at h3
    simp only [pp, keyV]
    rw [if_pos trivial]
    simp only
    rw [skip_loc h2, h3]
    simp only
    have hm : moreV false (r ++ 44 :: joinL (93 :: t0) (q.1 :: ps.map (·.1))) = .ok (true, joinL (93 :: t0) (q.1 :: ps.map (·.1))) := by
      unfold moreV
      rw [skip_all h1]
      rfl
    rw [hm]
    simp only [hadOf, Bool.false_eq_true, if_false]
    rw [ih f (n + p.2.flat.length) d (by omega) (by omega) (by omega)]
/-! ### how many nodes a text may have, and how deep it may be -/
theorem endV_yes {obj : Bool} {l r : List UInt8} (h : endV obj l = (true, r)) : r.length + 1 ≤ l.length := by
  unfold endV at h
  have h1 := opt1_yes h
  have h2 := skipB_len l
  rw [h1] at h2
  simpa using h2
theorem size_both : ∀ f : Nat, (∀ (n d : Nat) (l r : List UInt8) (j : J), pv f n d l = .ok (j, r) → j.flat.length + r.length ≤ l.length ∧ 2 * j.deep + r.length ≤ l.length + 1) ∧
    ∀ (obj : Bool) (n d : Nat) (had : List ByteArray) (l r : List UInt8) (js : List J), pp f obj n d had l = .ok (js, r) → (J.flats js).length + r.length + 1 ≤ l.length ∧ 2 * J.deeps js + r.length ≤ l.length
  | 0 => by
    refine ⟨fun _ _ _ _ _ h => ?_, fun _ _ _ _ _ _ _ h => ?_⟩
    · simp only [pv] at h
      cases h
    · simp only [pp] at h
      cases h
  | f + 1 => by
    obtain ⟨ihv, ihp⟩ := size_both f
    refine ⟨fun n d l r j h => ?_, fun obj n d had l r js h => ?_⟩
    · cases l with
      | nil => simp only [pv] at h; cases h
      | cons c l =>
        simp only [pv] at h
        split at h
        · cases h
        split at h
        · cases h
        split at h
        · cases h
        split at h
        · split at h
          · rename_i r1 he
            injection h with h; injection h with h h'; subst h h'
            have := endV_yes he
            simp only [J.flat, J.flats, J.deep, J.deeps, List.length_cons, List.length_nil]
            omega
          · rename_i r1 he
            split at h
            · cases h
            rename_i js r2 hp
            injection h with h; injection h with h h'; subst h h'
            obtain ⟨p1, p2⟩ := ihp _ _ _ _ _ _ _ hp
            have := endV_len he
            rw [flat_mk]
            simp only [J.deep, List.length_cons]
            omega
        · have a := leafV_less h
          omega
    · simp only [pp] at h
      split at h
      · cases h
      rename_i k l1 hk
      split at h
      · cases h
      rename_i j l2 hv
      have a1 := ihv _ _ _ _ _ hv
      have a2 := keyV_len hk
      have a3 := skipB_len l1
      split at h
      · cases h
      · rename_i l3 hm
        have a4 := moreV_less hm
        injection h with h; injection h with h h'; subst h h'
        rw [flats_one, rekey_len]
        simp only [J.deeps, rk_deep]
        omega
      · rename_i l3 hm
        have a4 := moreV_less hm
        split at h
        · cases h
        rename_i js2 l4 hp
        injection h with h; injection h with h h'; subst h h'
        have a5 := ihp _ _ _ _ _ _ _ hp
        rw [flats_cons, List.length_append, rekey_len]
        simp only [J.deeps, rk_deep]
        omega
theorem parseV_size {l : List UInt8} {j : J} (h : parseV l = .ok j) : j.flat.length ≤ l.length ∧ 2 * j.deep ≤ l.length + 1 := by
  unfold parseV at h
  split at h
  · cases h
  split at h
  · cases h
  rename_i j' r hp
  have a := (size_both _).1 _ _ _ _ _ hp
  have b := skipB_len l
  split at h
  · injection h with h
    subst h
    omega
  · cases h

/-! ### objects -/
/-- a text that is a key and its colon -/
def KeyText (kt k : List UInt8) : Prop := ∀ (had : List ByteArray) (r : List UInt8), bT k ∉ had → keyV true had (kt ++ r) = .ok (bT k, r)
theorem bT_inj {a b : List UInt8} (h : bT a = bT b) : a = b := by
  have h1 := congrArg (fun x : ByteArray => x.data.toList) h
  simpa [bT] using h1
/-- a member: the text of its key, what that says, its value's text, and what that says -/
structure Mem where
  kt : List UInt8
  k : List UInt8
  l : List UInt8
  j : J
def Mem.key (p : Mem) : ByteArray := bT p.k
def Mem.piece (p : Mem) : List UInt8 := p.kt ++ p.l
structure Mem.Ok (p : Mem) : Prop where
  val : parseV p.l = .ok p.j
  key : KeyText p.kt p.k
theorem KeyText.ne {kt k : List UInt8} (h : KeyText kt k) (r : List UInt8) : ∃ x, skipB (kt ++ r) = 34 :: x := by
  have h1 := h [] r (by simp)
  unfold keyV at h1
  rw [if_neg (by decide)] at h1
  cases hs : skipB (kt ++ r) with
  | nil => rw [hs] at h1; cases h1
  | cons c x =>
    rw [hs] at h1
    unfold litV at h1
    simp only at h1
    by_cases hc : c = 34
    · exact ⟨x, by rw [hc]⟩
    · rw [if_pos hc] at h1; cases h1
theorem pp_joinM (t0 : List UInt8) : ∀ (ps : List Mem) (had : List ByteArray), ps ≠ [] → (∀ p ∈ ps, p.Ok ∧ p.key ∉ had) → (ps.map Mem.k).Nodup → ∀ f n d : Nat, 2 * (joinL [125] (ps.map Mem.piece)).length + 1 ≤ f → n + (J.flats (ps.map Mem.j)).length ≤ 4000 → d + J.deeps (ps.map Mem.j) ≤ 64 →
    pp f true n d had (joinL (125 :: t0) (ps.map Mem.piece)) = .ok (ps.map fun p => p.j.rekey p.key, t0)
  | [], _, h, _, _, _, _, _, _, _, _ => absurd rfl h
  | [p], had, _, hp, _, f, n, d, hf, hn, hd => by
    simp only [List.map_cons, List.map_nil, joinL] at hf ⊢
    simp only [List.map_cons, List.map_nil, flats_one] at hn
    simp only [List.map_cons, List.map_nil, J.deeps] at hd
    simp only [List.length_append, List.length_cons, List.length_nil, Mem.piece] at hf
    obtain ⟨f, rfl⟩ : ∃ k, f = k + 1 := ⟨f - 1, by omega⟩
    obtain ⟨⟨q1, q2⟩, q3⟩ := hp p (List.mem_cons_self ..)
    obtain ⟨r, h1, h2, h3⟩ := parse_in (t := 125 :: t0) (n := n) (d := d) (g := f - fuelOf p.l) q1 ⟨by decide, by decide, by decide, by decide⟩ hn (by omega)
    rw [show fuelOf p.l + (f - fuelOf p.l) = f by unfold fuelOf; omega] at h3
    simp only [pp]
    rw [show Mem.piece p ++ 125 :: t0 = p.kt ++ (p.l ++ 125 :: t0) by unfold Mem.piece; rw [List.append_assoc], q2 had _ q3]
    simp only
    rw [skip_loc h2, h3]
    simp only
    have hm : moreV true (r ++ 125 :: t0) = .ok (false, t0) := by
      unfold moreV
      rw [skip_all h1]
      rfl
    rw [hm]
    rfl
  | p :: q :: ps, had, _, hp, hnd, f, n, d, hf, hn, hd => by
    obtain ⟨⟨q1, q2⟩, q3⟩ := hp p (List.mem_cons_self ..)
    have hnd2 := (List.nodup_cons.1 hnd)
    have ih := pp_joinM t0 (q :: ps) (had ++ [p.key]) (by simp) (fun x hx => ⟨(hp x (List.mem_cons_of_mem _ hx)).1, fun hm => by
      rcases List.mem_append.1 hm with hm | hm
      · exact (hp x (List.mem_cons_of_mem _ hx)).2 hm
      · have e := bT_inj (List.mem_singleton.1 hm)
        exact hnd2.1 (by rw [← e]; exact List.mem_map.2 ⟨x, hx, rfl⟩)⟩) hnd2.2
    simp only [List.map_cons, joinL] at hf ih ⊢
    simp only [List.map_cons, flats_cons, List.length_append] at hn ih
    simp only [List.map_cons, J.deeps] at hd ih
    simp only [List.length_append, List.length_cons] at hf
    have hpl : (Mem.piece p).length = p.kt.length + p.l.length := List.length_append
    rw [hpl] at hf
    obtain ⟨f, rfl⟩ : ∃ k, f = k + 1 := ⟨f - 1, by omega⟩
    obtain ⟨r, h1, h2, h3⟩ := parse_in (t := 44 :: joinL (125 :: t0) (Mem.piece q :: ps.map Mem.piece)) (n := n) (d := d) (g := f - fuelOf p.l) q1 ⟨by decide, by decide, by decide, by decide⟩ (by omega) (by omega)
    rw [show fuelOf p.l + (f - fuelOf p.l) = f by unfold fuelOf; omega] at h3
    simp only [pp]
    rw [show Mem.piece p ++ 44 :: joinL (125 :: t0) (Mem.piece q :: ps.map Mem.piece) = p.kt ++ (p.l ++ 44 :: joinL (125 :: t0) (Mem.piece q :: ps.map Mem.piece)) by rw [show Mem.piece p = p.kt ++ p.l from rfl, List.append_assoc], q2 had _ q3]
    simp only
    rw [skip_loc h2, h3]
    simp only
    have hm : moreV true (r ++ 44 :: joinL (125 :: t0) (Mem.piece q :: ps.map Mem.piece)) = .ok (true, joinL (125 :: t0) (Mem.piece q :: ps.map Mem.piece)) := by
      unfold moreV
      rw [skip_all h1]
      rfl
    rw [hm]
    simp only [hadOf, if_true]
    rw [show had ++ [bT p.k] = had ++ [p.key] from rfl, ih f (n + p.j.flat.length) d (by omega) (by omega) (by omega)]
    rfl

/-! ### the whole texts -/
theorem pp_skip (f : Nat) (obj : Bool) (n d : Nat) (had : List ByteArray) (l : List UInt8) : pp (f + 1) obj n d had (skipB l) = pp (f + 1) obj n d had l := by
  cases obj with
  | false => simp only [pp, keyV, if_true, skipB_skip]
  | true =>
    have h : keyV true had (skipB l) = keyV true had l := by
      unfold keyV
      rw [if_neg (by decide), if_neg (by decide), skipB_skip]
    rw [pp, pp, h]
theorem begins {l : List UInt8} {j : J} (h : parseV l = .ok j) : ∃ c r, skipB l = c :: r ∧ begB c = true := by
  unfold parseV at h
  split at h
  · cases h
  split at h
  · cases h
  rename_i hp
  unfold fuelOf at hp
  cases hs : skipB l with
  | nil => rw [hs] at hp; simp only [pv] at hp; cases hp
  | cons c r =>
    refine ⟨c, r, rfl, ?_⟩
    rw [hs] at hp
    simp only [pv] at hp
    split at hp
    · cases hp
    rename_i hb
    simpa using hb
theorem join_skip {e : List UInt8} {l : List UInt8} {ls : List (List UInt8)} (h : skipB l ≠ []) : ∃ t, skipB (joinL e (l :: ls)) = skipB l ++ t := by
  cases ls with
  | nil => exact ⟨e, by rw [joinL, skip_loc h]⟩
  | cons m ls => exact ⟨_, by rw [joinL, skip_loc h]⟩
theorem pv_list (t0 : List UInt8) (ps : List (List UInt8 × J)) (hp : ∀ p ∈ ps, parseV p.1 = .ok p.2) (f n d : Nat) (hf : 2 * (joinL [93] (ps.map (·.1))).length + 2 ≤ f) (hn : n + 1 + (J.flats (ps.map (·.2))).length ≤ 4000) (hd : d + 1 + J.deeps (ps.map (·.2)) ≤ 64) :
    pv f n d (91 :: joinL (93 :: t0) (ps.map (·.1))) = .ok (.mk ⟨6, none_, 0, none_⟩ (ps.map fun p => p.2.rekey none_), t0) := by
  obtain ⟨f, rfl⟩ : ∃ k, f = k + 1 + 1 := ⟨f - 2, by omega⟩
  rw [pv]
  rw [if_neg (by decide), if_neg (by omega), if_neg (by omega), if_pos (.inl rfl), show ((91 : UInt8) == 123) = false from by decide]
  cases ps with
  | nil => rfl
  | cons p ps =>
    obtain ⟨c, r, h1, h2⟩ := begins (hp p (List.mem_cons_self ..))
    obtain ⟨t, h3⟩ := join_skip (e := 93 :: t0) (ls := ps.map (·.1)) (show skipB p.1 ≠ [] by rw [h1]; simp)
    have hc : c ≠ 93 := by rintro rfl; exact absurd h2 (by decide)
    have he : endV false (joinL (93 :: t0) ((p :: ps).map (·.1))) = (false, skipB (joinL (93 :: t0) ((p :: ps).map (·.1)))) := by
      unfold endV
      simp only [List.map_cons]
      rw [h3, h1]
      have hc2 : c ≠ lastOf false := hc
      simp only [List.cons_append, opt1]
      exact if_neg hc2
    rw [he]
    simp only
    rw [pp_skip, pp_join t0 (p :: ps) (by simp) hp _ (n + 1) (d + 1) (by omega) hn hd]
    rfl
theorem pv_obj (t0 : List UInt8) (ps : List Mem) (hp : ∀ p ∈ ps, p.Ok) (hk : (ps.map Mem.k).Nodup) (f n d : Nat) (hf : 2 * (joinL [125] (ps.map Mem.piece)).length + 2 ≤ f) (hn : n + 1 + (J.flats (ps.map Mem.j)).length ≤ 4000) (hd : d + 1 + J.deeps (ps.map Mem.j) ≤ 64) :
    pv f n d (123 :: joinL (125 :: t0) (ps.map Mem.piece)) = .ok (.mk ⟨7, none_, 0, none_⟩ (ps.map fun p => p.j.rekey p.key), t0) := by
  obtain ⟨f, rfl⟩ : ∃ k, f = k + 1 + 1 := ⟨f - 2, by omega⟩
  rw [pv]
  rw [if_neg (by decide), if_neg (by omega), if_neg (by omega), if_pos (.inr rfl), show ((123 : UInt8) == 123) = true from by decide]
  cases ps with
  | nil => rfl
  | cons p ps =>
    have he : endV true (joinL (125 :: t0) ((p :: ps).map Mem.piece)) = (false, skipB (joinL (125 :: t0) ((p :: ps).map Mem.piece))) := by
      obtain ⟨t, ht⟩ : ∃ t, joinL (125 :: t0) ((p :: ps).map Mem.piece) = p.kt ++ t := by
        cases ps with
        | nil => exact ⟨p.l ++ 125 :: t0, by simp [joinL, Mem.piece]⟩
        | cons q ps => exact ⟨p.l ++ 44 :: joinL (125 :: t0) ((q :: ps).map Mem.piece), by simp [joinL, Mem.piece]⟩
      obtain ⟨x, hx⟩ := (hp p (List.mem_cons_self ..)).key.ne t
      unfold endV
      rw [ht, hx]
      rfl
    rw [he]
    simp only
    rw [pp_skip, pp_joinM t0 (p :: ps) [] (by simp) (fun x hx => ⟨hp x hx, by simp⟩) hk _ (n + 1) (d + 1) (by omega) hn hd]
    rfl
theorem parse_of_pv {l : List UInt8} {j : J} (h : l.length ≤ 1048576) (hs : skipB l = l) (hp : pv (fuelOf l) 0 0 l = .ok (j, [])) : parseV l = .ok j := by
  unfold parseV
  rw [if_neg (by omega), hs, hp]
  rfl
theorem parse_list (ps : List (List UInt8 × J)) (hp : ∀ p ∈ ps, parseV p.1 = .ok p.2) (hl : (joinL [93] (ps.map (·.1))).length ≤ 1048575) (hn : 1 + (J.flats (ps.map (·.2))).length ≤ 4000) (hd : 1 + J.deeps (ps.map (·.2)) ≤ 64) :
    parseV (91 :: joinL [93] (ps.map (·.1))) = .ok (.mk ⟨6, none_, 0, none_⟩ (ps.map fun p => p.2.rekey none_)) :=
  parse_of_pv (by simp only [List.length_cons]; omega) rfl (pv_list [] ps hp _ 0 0 (by unfold fuelOf; simp only [List.length_cons]; omega) (by omega) (by omega))
theorem parse_obj (ps : List Mem) (hp : ∀ p ∈ ps, p.Ok) (hk : (ps.map Mem.k).Nodup) (hl : (joinL [125] (ps.map Mem.piece)).length ≤ 1048575) (hn : 1 + (J.flats (ps.map Mem.j)).length ≤ 4000) (hd : 1 + J.deeps (ps.map Mem.j) ≤ 64) :
    parseV (123 :: joinL [125] (ps.map Mem.piece)) = .ok (.mk ⟨7, none_, 0, none_⟩ (ps.map fun p => p.j.rekey p.key)) :=
  parse_of_pv (by simp only [List.length_cons]; omega) rfl (pv_obj [] ps hp hk _ 0 0 (by unfold fuelOf; simp only [List.length_cons]; omega) (by omega) (by omega))

/-! ### what was put together so far -/
/-- texts with commas between them -/
def accL (c : UInt8) : List (List UInt8) → List UInt8
  | [] => [c]
  | l :: ls => c :: l ++ (ls.flatMap fun m => 44 :: m)
theorem accL_snoc (c : UInt8) (ls : List (List UInt8)) (m : List UInt8) : accL c (ls ++ [m]) = (if ls = [] then accL c ls else accL c ls ++ [44]) ++ m := by
  cases ls with
  | nil => simp [accL]
  | cons l ls =>
    rw [if_neg (by simp)]
    simp [accL, List.flatMap_append]
theorem joinL_flat (e : List UInt8) : ∀ (l : List UInt8) (ls : List (List UInt8)), joinL e (l :: ls) = l ++ (ls.flatMap fun m => 44 :: m) ++ e
  | l, [] => by simp [joinL]
  | l, m :: ls => by
    rw [joinL, joinL_flat e m ls]
    simp
theorem accL_join (c : UInt8) (e : List UInt8) (ls : List (List UInt8)) : accL c ls ++ e = c :: joinL e ls := by
  cases ls with
  | nil => rfl
  | cons l ls =>
    rw [joinL_flat]
    simp [accL]
theorem accL_len (c : UInt8) (L : Nat) : ∀ {ls : List (List UInt8)}, (∀ l ∈ ls, l.length ≤ L) → (accL c ls).length ≤ 1 + ls.length * (L + 1) := by
  have h : ∀ {ls : List (List UInt8)}, (∀ l ∈ ls, l.length ≤ L) → (ls.flatMap fun m => 44 :: m).length ≤ ls.length * (L + 1) := by
    intro ls
    induction ls with
    | nil => intro _; simp
    | cons l ls ih =>
      intro h
      have h1 := h l (List.mem_cons_self ..)
      have h2 := ih fun x hx => h x (List.mem_cons_of_mem _ hx)
      simp only [List.flatMap_cons, List.length_append, List.length_cons, Nat.succ_mul] at h2 ⊢
      omega
  intro ls hs
  cases ls with
  | nil => simp [accL]
  | cons l ls =>
    have h1 := hs l (List.mem_cons_self ..)
    have h2 := h fun x hx => hs x (List.mem_cons_of_mem _ hx)
    simp only [accL, List.length_append, List.length_cons, Nat.succ_mul] at h2 ⊢
    omega
end Go.Proofs.YtcddfpcapbdphaaDoor

/-! ### Members put together, and read: plain laws; the keys of one letter. -/
namespace Go.Proofs.YtcddfpcapbdphaaDoor

theorem cat_list (a b : ByteArray) : (a ++ b).data.toList = a.data.toList ++ b.data.toList := by simp
def rowsM (ps : List Mem) : List (List Nd) := ps.map fun p => p.j.flat
def jsM (ps : List Mem) : List J := ps.map Mem.j
def keysM (ps : List Mem) : List ByteArray := ps.map Mem.key
def listM (ps : List Mem) : J := .mk ⟨6, none_, 0, none_⟩ (jsM ps)
def objM (ps : List Mem) : J := .mk ⟨7, none_, 0, none_⟩ (ps.map fun p => p.j.rekey p.key)
theorem mems_may {ps : List Mem} (h : ∀ p ∈ ps, parseV p.l = .ok p.j) : AllMay (rowsM ps) (jsM ps) := by
  refine ⟨by simp [rowsM, jsM], fun i hi hi' => ?_⟩
  simp only [rowsM, jsM, List.getElem_map]
  exact parseV_may (h _ (List.getElem_mem _))
theorem rekeys_map : ∀ (ps : List Mem), rekeys (keysM ps) (jsM ps) = ps.map fun p => p.j.rekey p.key
  | [] => rfl
  | p :: ps => by
    simp only [keysM, jsM, List.map_cons, rekeys]
    have := rekeys_map ps
    simp only [keysM, jsM] at this
    rw [this]
theorem rekeys_flats_len : ∀ (ps : List Mem), (J.flats (ps.map fun p => p.j.rekey p.key)).length = (J.flats (jsM ps)).length
  | [] => rfl
  | p :: ps => by
    have := rekeys_flats_len ps
    simp only [List.map_cons, flats_cons, jsM, List.length_append, rekey_len] at this ⊢
    omega
theorem rekeys_deeps_eq : ∀ (ps : List Mem), J.deeps (ps.map fun p => p.j.rekey p.key) = J.deeps (jsM ps)
  | [] => rfl
  | p :: ps => by
    have := rekeys_deeps_eq ps
    simp only [List.map_cons, jsM, J.deeps, rk_deep] at this ⊢
    rw [this]
theorem listM_len (ps : List Mem) : (listM ps).flat.length = (J.flats (jsM ps)).length + 1 := by rw [listM, flat_mk, List.length_cons]
theorem objM_len (ps : List Mem) : (objM ps).flat.length = (J.flats (jsM ps)).length + 1 := by rw [objM, flat_mk, List.length_cons, rekeys_flats_len]
theorem listM_deep (ps : List Mem) : (listM ps).deep = 1 + J.deeps (jsM ps) := by simp only [listM, J.deep]; omega
theorem objM_deep (ps : List Mem) : (objM ps).deep = 1 + J.deeps (jsM ps) := by simp only [objM, J.deep, rekeys_deeps_eq]; omega
theorem listM_say {ps : List Mem} (h : ∀ p ∈ ps, parseV p.l = .ok p.j) (hn : 1 + (J.flats (jsM ps)).length ≤ 4000) (hd : 1 + J.deeps (jsM ps) ≤ 64) : ListT (rowsM ps) (listM ps).flat 0 :=
  .inr ⟨jsM ps, mems_may h, .inr (.inr ⟨by omega, by omega, rfl, rfl⟩)⟩
theorem objM_say {ps : List Mem} (h : ∀ p ∈ ps, p.Ok) (hk : (ps.map Mem.k).Nodup) (hv : ∀ p ∈ ps, vU p.key = true) (hn : 1 + (J.flats (jsM ps)).length ≤ 4000) (hd : 1 + J.deeps (jsM ps) ≤ 64) : ObjT (keysM ps) (rowsM ps) (objM ps).flat 0 := by
  have hkl : (keysM ps).length = (rowsM ps).length := by simp [keysM, rowsM]
  have hm := mems_may fun p hp => (h p hp).val
  refine .inr ⟨hkl, .inr ⟨fun j hj => ?_, jsM ps, hm, ?_⟩⟩
  · have hjk : j < (keysM ps).length := by rw [hkl]; exact hj
    have hjp : j < ps.length := by simpa [keysM] using hjk
    rw [objErr_chk hjk hj (by simp only [keysM, List.getElem_map]; exact hv _ (List.getElem_mem _)) (by
      rw [hasKey_not]
      intro hm
      obtain ⟨i, hi, e⟩ := List.mem_take_iff_getElem.1 hm
      simp only [keysM, List.getElem_map, Mem.key] at e
      have e2 := bT_inj e
      have hi2 : i < ps.length := by simp only [keysM, List.length_map] at hi; omega
      have := (List.getElem_inj (i := i) (j := j) (h₀ := by simpa using hi2) (h₁ := by simpa using hjp) hk).1 (by simpa using e2)
      omega)]
    exact allMay_chk hm j hj
  · rw [rekeys_map]
    exact .inr (.inr ⟨by rw [rekeys_flats_len]; omega, by rw [rekeys_deeps_eq]; omega, rfl, rfl⟩)
theorem keys_none {ps : List Mem} (h : ∀ p ∈ ps, parseV p.l = .ok p.j) : (ps.map fun p => p.j.rekey none_) = jsM ps :=
  List.map_congr_left fun p hp => rekey_same (allMay_keys (mems_may h) _ (List.mem_map.2 ⟨p, hp, rfl⟩))
theorem listM_parse {ps : List Mem} (h : ∀ p ∈ ps, parseV p.l = .ok p.j) (hl : (accL 91 (ps.map Mem.l)).length ≤ 1048575) (hn : 1 + (J.flats (jsM ps)).length ≤ 4000) (hd : 1 + J.deeps (jsM ps) ≤ 64) : parseV (accL 91 (ps.map Mem.l) ++ [93]) = .ok (listM ps) := by
  have h1 := accL_join 91 [93] (ps.map Mem.l)
  have h2 := congrArg List.length h1
  simp only [List.length_append, List.length_cons, List.length_nil] at h2
  have h3 := parse_list (ps.map fun p => (p.l, p.j)) (fun p hp => by
      obtain ⟨q, hq, rfl⟩ := List.mem_map.1 hp
      exact h q hq) (by rw [show (ps.map fun p => (p.l, p.j)).map (·.1) = ps.map Mem.l by simp [Function.comp_def]]; omega)
    (by rw [show (ps.map fun p => (p.l, p.j)).map (·.2) = jsM ps by simp [jsM, Function.comp_def]]; omega) (by rw [show (ps.map fun p => (p.l, p.j)).map (·.2) = jsM ps by simp [jsM, Function.comp_def]]; omega)
  rw [show (ps.map fun p => (p.l, p.j)).map (·.1) = ps.map Mem.l by simp [Function.comp_def]] at h3
  rw [h1, h3, listM, ← keys_none h]
  simp [Function.comp_def]
theorem objM_parse {ps : List Mem} (h : ∀ p ∈ ps, p.Ok) (hk : (ps.map Mem.k).Nodup) (hl : (accL 123 (ps.map Mem.piece)).length ≤ 1048575) (hn : 1 + (J.flats (jsM ps)).length ≤ 4000) (hd : 1 + J.deeps (jsM ps) ≤ 64) : parseV (accL 123 (ps.map Mem.piece) ++ [125]) = .ok (objM ps) := by
  have h1 := accL_join 123 [125] (ps.map Mem.piece)
  have h2 := congrArg List.length h1
  simp only [List.length_append, List.length_cons, List.length_nil] at h2
  rw [h1, parse_obj ps h hk (by omega) hn hd, objM]

/-! ### keys of one letter -/
def isKeyA (k : UInt8) : Prop := k = 97 ∨ k = 98 ∨ k = 99 ∨ k = 100 ∨ k = 101 ∨ k = 102
theorem key_a (k : UInt8) (hk : isKeyA k) : litV [34, k, 34] = .ok ([k], []) := by
  rcases hk with rfl | rfl | rfl | rfl | rfl | rfl <;> rfl
theorem keyText_a {k : UInt8} (hk : isKeyA k) : KeyText [34, k, 34, 58] [k] := by
  intro had r hh
  unfold keyV
  rw [if_neg (by decide), show skipB ([34, k, 34, 58] ++ r) = [34, k, 34] ++ 58 :: r from rfl, litV_loc (key_a k hk)]
  simp only [List.nil_append]
  rw [if_neg (by rw [hasKey_not.2 hh]; decide), show skipB (58 :: r) = 58 :: r from rfl]
  rfl
theorem vU_a {k : UInt8} (hk : isKeyA k) : vU (bT [k]) = true := litV_uok (key_a k hk)
/-- a member of few bytes, under a letter -/
def memA (k : UInt8) (l : List UInt8) (j : J) : Mem := ⟨[34, k, 34, 58], [k], l, j⟩
structure Mem.Few (p : Mem) : Prop where
  ok : p.Ok
  len : p.l.length ≤ 100
  plen : p.piece.length ≤ 104
  key : vU p.key = true
theorem memA_few {k : UInt8} {l : List UInt8} {j : J} (hk : isKeyA k) (h : parseV l = .ok j) (hl : l.length ≤ 100) : (memA k l j).Few where
  ok := ⟨h, keyText_a hk⟩
  len := hl
  plen := by simp only [Mem.piece, memA, List.length_append, List.length_cons, List.length_nil]; omega
  key := vU_a hk
theorem few_size : ∀ {ps : List Mem}, (∀ p ∈ ps, p.Few) → (J.flats (jsM ps)).length ≤ 100 * ps.length ∧ J.deeps (jsM ps) ≤ 50
  | [], _ => by simp [jsM, J.flats, J.deeps]
  | p :: ps, h => by
    have h1 := few_size (ps := ps) fun x hx => h x (List.mem_cons_of_mem _ hx)
    have h0 := h p (List.mem_cons_self ..)
    have h2 := parseV_size h0.ok.val
    have h3 := h0.len
    simp only [jsM, List.map_cons, flats_cons, J.deeps, List.length_append, List.length_cons] at h1 ⊢
    omega
/-- all that the law asks -/
theorem lists_say {ps : List Mem} (h6 : ps.length ≤ 6) (hk : (ps.map Mem.k).Nodup) (h : ∀ p ∈ ps, p.Few) : ∃ ja jb : J, ListT (rowsM ps) ja.flat 0 ∧ ObjT (keysM ps) (rowsM ps) jb.flat 0 ∧ parseV (accL 91 (ps.map Mem.l) ++ [93]) = .ok ja ∧ parseV (accL 123 (ps.map Mem.piece) ++ [125]) = .ok jb ∧ ja.flat.length ≤ 4000 ∧ jb.flat.length ≤ 4000 := by
  obtain ⟨z1, z2⟩ := few_size h
  have ho : ∀ p ∈ ps, p.Ok := fun p hp => (h p hp).ok
  have a1 := accL_len 91 100 (ls := ps.map Mem.l) (fun l hl => by
    obtain ⟨q, hq, rfl⟩ := List.mem_map.1 hl
    exact (h q hq).len)
  have a2 := accL_len 123 104 (ls := ps.map Mem.piece) (fun l hl => by
    obtain ⟨q, hq, rfl⟩ := List.mem_map.1 hl
    exact (h q hq).plen)
  rw [List.length_map] at a1 a2
  exact ⟨listM ps, objM ps, listM_say (fun p hp => (ho p hp).val) (by omega) (by omega), objM_say ho hk (fun p hp => (h p hp).key) (by omega) (by omega), listM_parse (fun p hp => (ho p hp).val) (by omega) (by omega) (by omega), objM_parse ho hk (by omega) (by omega) (by omega), by rw [listM_len]; omega, by rw [objM_len]; omega⟩
end Go.Proofs.YtcddfpcapbdphaaDoor
