/- What is shown is read as it was: plain laws. -/
import Derived.Test.YtmolmphbhdbcaaaGreatDoorListsM
import Derived.Test.YtmolmphbhdbcaaaGreatDoorQuoteL
import Derived.Lib.ItoaLen
/-! ### What is shown is read as it was: plain laws. -/
namespace Go.Proofs.YtmolmphbhdbcaaaGreatDoor
open Go.Lib (decodeL validD decDigits itoa)

theorem pv_leaf {f n d : Nat} {c : UInt8} {r : List UInt8} (hb : begB c = true) (h1 : c ≠ 91) (h2 : c ≠ 123) (hn : n < 4000) (hd : d < 64) : pv (f + 1) n d (c :: r) = leafV c (c :: r) := by
  rw [pv]
  rw [if_neg (by rw [hb]; decide), if_neg (by omega), if_neg (by omega), if_neg (by rintro (h | h); exact h1 h; exact h2 h)]
theorem enc_low {r : Nat} (h : r < 128) : encL r = [UInt8.ofNat r] := by
  have key : ∀ k : _root_.Fin 128, encL k.val = [UInt8.ofNat k.val] := by decide +kernel
  exact key ⟨r, h⟩
theorem hex_back {k : Nat} (h : k < 16) : hexV (hexB k) = some k := by
  have key : ∀ k : _root_.Fin 16, hexV (hexB k.val) = some k.val := by decide +kernel
  exact key ⟨k, h⟩
theorem take_low {l : List UInt8} {r n : Nat} (h : RuneAt l r n) (hr : r < 128) : l.take n = [UInt8.ofNat r] := by
  rw [← h.enc]
  unfold Lib.encodeRune
  rw [Lib.encodeRuneZ_one (by omega) (by omega)]
  rfl
theorem half_back {a b : Nat} (ha : a < 16) (hb : b < 16) (Y : List UInt8) : half4 false (48 :: 48 :: hexB a :: hexB b :: Y) = .ok (16 * a + b, Y) := by
  unfold half4
  simp only [hex1, hex_back ha, hex_back hb, show hexV 48 = some 0 from rfl]
  rw [if_neg (by decide), if_neg (by decide)]
  simp
/-- a rune of a literal, read back -/
theorem piece_back {l : List UInt8} (hne : l ≠ []) (hb : ¬ ((decodeL l).1 = 65533 ∧ (decodeL l).2 = 1)) (Y : List UInt8) : ∃ c x, escL (l.take (decodeL l).2) = c :: x ∧ c ≠ 34 ∧ pieceV (escL (l.take (decodeL l).2) ++ Y) = .ok (l.take (decodeL l).2, Y) := by
  have h := rune_at l hne hb
  have hu := uok_rune l hb hne
  obtain ⟨r, hr⟩ : ∃ r, (decodeL l).1 = r := ⟨_, rfl⟩
  obtain ⟨n, hn⟩ : ∃ n, (decodeL l).2 = n := ⟨_, rfl⟩
  rw [hr, hn] at h
  rw [hn] at hu ⊢
  have hlen : (l.take n).length = n := by rw [List.length_take]; have := h.le; omega
  rw [esc_rune h]
  cases ht : twoOf r with
  | some c =>
    have hlow : r < 128 := by
      unfold twoOf at ht
      repeat' split at ht
      all_goals first | omega | cases ht
    rw [take_low h hlow]
    unfold twoOf at ht
    repeat' split at ht
    all_goals first | (cases ht; done) | (injection ht with ht; rename_i hc; subst hc; subst ht; refine ⟨92, _, rfl, by decide, ?_⟩; exact congrArg (fun q => Except.ok (q, Y)) (enc_low (by decide)))
  | none =>
    simp only
    have hn34 : r ≠ 34 := by rintro rfl; cases ht
    have hn92 : r ≠ 92 := by rintro rfl; cases ht
    by_cases h32 : r < 32
    · rw [if_pos h32, take_low h (by omega)]
      refine ⟨92, _, rfl, by decide, ?_⟩
      show escV (117 :: 48 :: 48 :: hexB (r / 16) :: hexB (r % 16) :: Y) = _
      simp only [escV]
      rw [if_neg (by decide), show shortV 117 = none from rfl]
      simp only
      rw [if_neg (by decide), half_back (by omega) (by omega)]
      simp only
      rw [show 16 * (r / 16) + r % 16 = r by omega, if_neg (by unfold isHigh; simp; omega), enc_low (by omega)]
    · rw [if_neg h32, h.enc]
      obtain ⟨c, x, hcx⟩ : ∃ c x, l.take n = c :: x := by
        cases hx : l.take n with
        | nil => rw [hx] at hlen; have := h.pos; simp at hlen; omega
        | cons c x => exact ⟨c, x, rfl⟩
      have hc : c ≠ 34 ∧ c ≠ 92 ∧ ¬ c.toNat < 32 := by
        rcases Nat.lt_or_ge r 128 with h1 | h1
        · have e := take_low h h1
          rw [hcx] at e
          injection e with e _
          have ec : c.toNat = r := by rw [e]; simp; omega
          refine ⟨?_, ?_, by omega⟩
          · rintro rfl; exact hn34 ec.symm
          · rintro rfl; exact hn92 ec.symm
        · have := h.high h1 c (by rw [hcx]; exact List.mem_cons_self ..)
          refine ⟨?_, ?_, by omega⟩
          · rintro rfl; revert this; decide
          · rintro rfl; revert this; decide
      refine ⟨c, x, hcx, hc.1, ?_⟩
      have hU : l.take n ≠ [] := by rw [hcx]; simp
      have hub : ¬ ((decodeL (l.take n)).1 = 65533 ∧ (decodeL (l.take n)).2 = 1) := by
        intro hbad
        have hv := uok_valid hu
        rw [Lib.validD_step _ hU, if_pos hbad] at hv
        cases hv
      have e1 : decodeL l = decodeL (l.take n) := by
        have := dec_loc (l.take n) (l.drop n) hU hub
        rwa [List.take_append_drop] at this
      have e2 : decodeL (l.take n ++ Y) = decodeL l := by rw [dec_loc (l.take n) Y hU hub, e1]
      have hrn : runeN (l.take n ++ Y) = n := by
        have hd : Utf8.decode (bT (l.take n ++ Y)) 0 = decodeL l := e2
        unfold runeN
        rw [if_neg (by
          intro k
          rw [hd] at k
          exact hb ⟨congrArg Prod.fst k, congrArg Prod.snd k⟩), hd, hn]
      have hp : pieceV (l.take n ++ Y) = plainV (l.take n ++ Y) := by
        rw [hcx, List.cons_append]
        simp only [pieceV]
        rw [if_neg hc.2.1]
      rw [hp]
      have hpl : plainV (l.take n ++ Y) = .ok ((l.take n ++ Y).take (runeN (l.take n ++ Y)), (l.take n ++ Y).drop (runeN (l.take n ++ Y))) := by
        have hpos := h.pos
        rw [hcx, List.cons_append] at hrn ⊢
        simp only [plainV]
        rw [if_neg hc.2.2, if_pos (by rw [hrn]; omega)]
      rw [hpl, hrn]
      have ha : (l.take n ++ Y).take n = l.take n := by
        have := List.take_left (l₁ := l.take n) (l₂ := Y)
        rwa [hlen] at this
      have hd : (l.take n ++ Y).drop n = Y := by
        have := List.drop_left (l₁ := l.take n) (l₂ := Y)
        rwa [hlen] at this
      rw [ha, hd]
theorem unq_back : ∀ (k : Nat) (l : List UInt8), l.length ≤ k → validD l = true → ∀ (t : List UInt8) (f : Nat), (escL l ++ 34 :: t).length < f → unqB f (escL l ++ 34 :: t) = .ok (l, t)
  | _, [], _, _, t, f, hf => by
    obtain ⟨g, rfl⟩ : ∃ g, f = g + 1 := ⟨f - 1, by omega⟩
    rfl
  | 0, c :: l, h, _, _, _, _ => by simp at h
  | k + 1, c :: l, h, hv, t, f, hf => by
    obtain ⟨m, hm⟩ : ∃ m, c :: l = m := ⟨_, rfl⟩
    rw [hm] at h hv hf ⊢
    have hne : m ≠ [] := by rw [← hm]; simp
    obtain ⟨hra, hvd⟩ := valid_step hv hne
    have hb : ¬ ((decodeL m).1 = 65533 ∧ (decodeL m).2 = 1) := by
      intro hbad
      rw [Lib.validD_step _ hne, if_pos hbad] at hv
      cases hv
    have hsplit : escL m = escL (m.take (decodeL m).2) ++ escL (m.drop (decodeL m).2) := by rw [← escL_append, List.take_append_drop]
    obtain ⟨c', x, h1, h2, h3⟩ := piece_back hne hb (escL (m.drop (decodeL m).2) ++ 34 :: t)
    obtain ⟨g, rfl⟩ : ∃ g, f = g + 1 := ⟨f - 1, by omega⟩
    have hl : (m.drop (decodeL m).2).length ≤ k := by
      have := hra.pos
      rw [List.length_drop]
      omega
    rw [hsplit, List.append_assoc] at hf ⊢
    have hx : escL (m.take (decodeL m).2) ++ (escL (m.drop (decodeL m).2) ++ 34 :: t) = c' :: (x ++ (escL (m.drop (decodeL m).2) ++ 34 :: t)) := by rw [h1]; rfl
    have ih := unq_back k _ hl hvd t g (by rw [h1] at hf; simp only [List.length_append, List.length_cons] at hf ⊢; omega)
    rw [hx] at h3 ⊢
    simp only [unqB]
    rw [if_neg h2, h3]
    simp only
    rw [ih]
    simp only
    rw [List.take_append_drop]
/-- a literal, read back -/
theorem quote_back {s : ByteArray} (hv : vU s = true) (t : List UInt8) : litV (quoteL s ++ t) = .ok (s.data.toList, t) := by
  unfold quoteL litV
  rw [List.cons_append]
  simp only
  rw [if_neg (by decide)]
  simp only [unqV]
  rw [if_neg (by decide), List.append_assoc, show [34] ++ t = 34 :: t from rfl, unq_back s.data.toList.length s.data.toList (Nat.le_refl _) hv _ _ (by simp)]

/-! ### values -/
theorem rekey_show (k : ByteArray) (j : J) : (j.rekey k).show = j.show := by cases j; simp [J.rekey, J.show]
theorem rekey_back (k : ByteArray) (j : J) : (j.rekey k).rekey j.key = j := by cases j; rfl
theorem rekey_flat_len (k : ByteArray) (l : List J) : (J.flats (l.map (J.rekey k))).length = (J.flats l).length := by
  induction l with
  | nil => rfl
  | cons j l ih =>
    simp only [List.map_cons, flats_cons, List.length_append, rekey_len]
    rw [ih]
theorem rekey_deep_eq (k : ByteArray) (l : List J) : J.deeps (l.map (J.rekey k)) = J.deeps l := by
  induction l with
  | nil => rfl
  | cons j l ih =>
    simp only [List.map_cons, J.deeps, rk_deep]
    rw [ih]
/-- what a value must be to be shown and read back -/
structure Back (j : J) : Prop where
  ok : J.Ok vU j
  nums : NumsOk j.flat
  len : j.flat.length ≤ 4000
  deep : j.deep ≤ 64
  text : j.show.length ≤ 1048576
theorem mem_flats {j : J} : ∀ {l : List J}, j ∈ l → (∀ x ∈ j.flat, x ∈ J.flats l) ∧ j.flat.length ≤ (J.flats l).length ∧ j.deep ≤ J.deeps l
  | [], h => by simp at h
  | k :: l, h => by
    rw [flats_cons]
    simp only [J.deeps, List.length_append]
    rcases List.mem_cons.1 h with rfl | h
    · exact ⟨fun x hx => List.mem_append_left _ hx, by omega, by omega⟩
    · obtain ⟨h1, h2, h3⟩ := mem_flats h
      exact ⟨fun x hx => List.mem_append_right _ (h1 x hx), by omega, by omega⟩
theorem mem_oks {V : ByteArray → Bool} {j : J} : ∀ {l : List J}, J.Oks V l → j ∈ l → J.Ok V j
  | [], _, h => by simp at h
  | k :: l, ho, h => by
    simp only [J.Oks] at ho
    rcases List.mem_cons.1 h with rfl | h
    · exact ho.1
    · exact mem_oks ho.2 h
theorem mem_shows {o : Bool} {j : J} : ∀ {l : List J} (f : Bool), j ∈ l → j.show.length ≤ (J.shows o f l).length
  | [], _, h => by simp at h
  | k :: l, f, h => by
    rw [shows_cons, List.length_append]
    rcases List.mem_cons.1 h with rfl | h
    · unfold partShow
      simp only [List.length_append]
      omega
    · have := mem_shows (o := o) false h
      omega
theorem keysOk_out {V : ByteArray → Bool} : ∀ {ks had : List ByteArray}, keysOk V had ks → (∀ k ∈ ks, V k = true ∧ k ∉ had) ∧ ks.Nodup
  | [], _, _ => ⟨by simp, List.nodup_nil⟩
  | k :: ks, had, h => by
    simp only [keysOk] at h
    obtain ⟨h1, h2, h3⟩ := h
    obtain ⟨i1, i2⟩ := keysOk_out h3
    refine ⟨fun x hx => ?_, List.nodup_cons.2 ⟨fun hm => (i1 k hm).2 (by simp), i2⟩⟩
    rcases List.mem_cons.1 hx with rfl | hx
    · exact ⟨h1, h2⟩
    · exact ⟨(i1 x hx).1, fun hm => (i1 x hx).2 (List.mem_append_left _ hm)⟩
/-- a part's text, without a comma -/
def pieceS (o : Bool) (j : J) : List UInt8 := (if o then quoteL j.key ++ [58] else []) ++ j.show
theorem part_true (o : Bool) (j : J) : partShow o true j = pieceS o j := by simp [partShow, pieceS]
theorem part_false (o : Bool) (j : J) : partShow o false j = 44 :: pieceS o j := by simp [partShow, pieceS]
theorem shows_false (o : Bool) : ∀ (l : List J), l ≠ [] → J.shows o false l = 44 :: J.shows o true l
  | [], h => absurd rfl h
  | j :: l, _ => by rw [shows_cons, shows_cons, part_true, part_false]; rfl
theorem shows_join (o : Bool) (e : List UInt8) : ∀ (l : List J), J.shows o true l ++ e = joinL e (l.map (pieceS o))
  | [] => by simp [J.shows, joinL]
  | [j] => by rw [shows_cons, shows_nil, part_true]; simp [joinL]
  | j :: k :: l => by
    have ih := shows_join o e (k :: l)
    rw [shows_cons, shows_false o (k :: l) (by simp), part_true, List.map_cons, List.map_cons, joinL, ← List.map_cons, ← ih]
    simp
theorem keyText_quote {k : ByteArray} (hv : vU k = true) : KeyText (quoteL k ++ [58]) k.data.toList := by
  intro had r hh
  unfold keyV
  rw [if_neg (by decide), show skipB (quoteL k ++ [58] ++ r) = quoteL k ++ (58 :: r) from by
    rw [List.append_assoc]; rfl, quote_back hv]
  simp only
  rw [if_neg (by rw [hasKey_not.2 hh]; decide), show skipB (58 :: r) = 58 :: r from rfl]
  rfl
theorem parse_quote {s : ByteArray} (hv : vU s = true) (hl : (quoteL s).length ≤ 1048576) : parseV (quoteL s) = .ok (oneJ 5 0 s) := by
  have h := quote_back hv []
  rw [List.append_nil] at h
  refine parse_of_pv hl rfl ?_
  unfold fuelOf
  rw [show quoteL s = 34 :: (escL s.data.toList ++ [34]) from rfl] at h ⊢
  rw [pv_leaf (by decide) (by decide) (by decide) (by omega) (by omega)]
  have hlf : ∀ x, leafV 34 (34 :: x) = match litV (34 :: x) with | .error b => .error b | .ok (s, r) => .ok (oneJ 5 0 (bT s), r) := fun x => rfl
  rw [hlf, h]
  simp only
  rw [bT_of]
theorem round_both : (∀ j : J, Back j → parseV j.show = .ok (j.rekey none_)) ∧ ∀ l : List J, ∀ j ∈ l, Back j → parseV j.show = .ok (j.rekey none_) := by
  refine J.both ?_ (by simp) ?_
  · intro h l ih hb
    obtain ⟨hok, hnum, hlen, hdeep, htext⟩ := hb
    rw [flat_mk] at hlen hnum
    simp only [List.length_cons] at hlen
    have hn := hnum ⟨h.kind, h.key, h.n, h.s, (J.flats l).length + 1⟩ (List.mem_cons_self ..)
    have hd' : 1 + J.deeps l ≤ 64 := by simp only [J.deep] at hdeep; omega
    have hkid : ∀ o, (J.shows o true l).length + 2 ≤ 1048576 → J.Oks vU l → ∀ j ∈ l, parseV j.show = .ok (j.rekey none_) := fun o hs hoks j hj => by
      obtain ⟨m1, m2, m3⟩ := mem_flats hj
      refine ih j hj ⟨mem_oks hoks hj, fun x hx => hnum x (List.mem_cons_of_mem _ (m1 x hx)), by omega, by omega, ?_⟩
      have := mem_shows (o := o) true hj
      omega
    obtain ⟨kind, key, n, s⟩ := h
    simp only [J.Ok] at hok
    rcases hok with ⟨hl, rfl⟩ | ⟨hk, ⟨h1, h2⟩, hoks, hkeys⟩ | ⟨hk, ⟨h1, h2⟩, hoks, hkeys⟩
    · rcases hl with ⟨hk, h1, h2⟩ | ⟨hk, h2⟩ | ⟨hk, h1, h2⟩
      · simp only at hk h1 h2
        subst h1 h2
        rcases hk with rfl | rfl | rfl <;> rfl
      · simp only at hk h2
        subst hk h2
        simp only at hn
        have : (Lib.itoa n).length ≤ 21 := Lib.itoa_length_le n hn.1 hn.2
        exact parse_itoa n hn.1 hn.2 (by omega)
      · simp only at hk h1 h2
        subst hk h1
        exact parse_quote h2 htext
    · simp only at hk h1 h2
      subst hk h1 h2
      have hsh : (J.mk ⟨6, key, 0, none_⟩ l).show = 91 :: (J.shows false true l ++ [93]) := by simp [J.show]
      rw [hsh] at htext ⊢
      simp only [List.length_cons, List.length_append, List.length_nil] at htext
      have hp := hkid false (by omega) hoks
      have hkn : ∀ j ∈ l, j.rekey none_ = j := fun j hj => rekey_same (hkeys j hj)
      rw [shows_join, show l.map (pieceS false) = (l.map fun j => (j.show, j)).map (·.1) by rw [List.map_map]; exact List.map_congr_left fun j _ => by simp [pieceS]]
      have hjl : (joinL [93] ((l.map fun j => (j.show, j)).map (·.1))).length ≤ 1048575 := by
        rw [show (l.map fun j => (j.show, j)).map (·.1) = l.map (pieceS false) by rw [List.map_map]; exact List.map_congr_left fun j _ => by simp [pieceS], ← shows_join]
        simp only [List.length_append, List.length_cons, List.length_nil]
        omega
      have h2 : (l.map fun j => (j.show, j)).map (·.2) = l := by rw [List.map_map]; exact List.map_id _
      rw [parse_list (l.map fun j => (j.show, j)) (fun p hpm => by
        obtain ⟨j, hj, rfl⟩ := List.mem_map.1 hpm
        rw [hp j hj, hkn j hj]) hjl (by rw [h2]; omega) (by rw [h2]; omega)]
      congr 1
      rw [List.map_map]
      have : l.map ((fun p : List UInt8 × J => p.2.rekey none_) ∘ fun j => (j.show, j)) = l := by
        conv => rhs; rw [← List.map_id l]
        exact List.map_congr_left fun j hj => hkn j hj
      rw [this]
      rfl
    · simp only at hk h1 h2
      subst hk h1 h2
      have hsh : (J.mk ⟨7, key, 0, none_⟩ l).show = 123 :: (J.shows true true l ++ [125]) := by simp [J.show]
      rw [hsh] at htext ⊢
      simp only [List.length_cons, List.length_append, List.length_nil] at htext
      have hp := hkid true (by omega) hoks
      obtain ⟨hkv, hnd⟩ := keysOk_out hkeys
      let mk : J → Mem := fun j => ⟨quoteL j.key ++ [58], j.key.data.toList, j.show, j.rekey none_⟩
      have hpc : l.map (pieceS true) = (l.map mk).map Mem.piece := by rw [List.map_map]; exact List.map_congr_left fun j _ => by simp [pieceS, mk, Mem.piece]
      have hmj : (l.map mk).map Mem.j = l.map (J.rekey none_) := by rw [List.map_map]; rfl
      rw [shows_join, hpc]
      have hjl : (joinL [125] ((l.map mk).map Mem.piece)).length ≤ 1048575 := by
        rw [← hpc, ← shows_join]
        simp only [List.length_append, List.length_cons, List.length_nil]
        omega
      rw [parse_obj (l.map mk) (fun p hpm => by
        obtain ⟨j, hj, rfl⟩ := List.mem_map.1 hpm
        exact ⟨hp j hj, keyText_quote (hkv j.key (List.mem_map.2 ⟨j, hj, rfl⟩)).1⟩) (by
        have e : (l.map mk).map Mem.k = (l.map J.key).map fun k => k.data.toList := by rw [List.map_map, List.map_map]; rfl
        rw [e]
        refine List.pairwise_map.2 (hnd.imp fun {a b} hab e => hab ?_)
        rw [← bT_of a, ← bT_of b, e]) hjl (by rw [hmj, rekey_flat_len]; omega) (by rw [hmj, rekey_deep_eq]; omega)]
      congr 1
      rw [List.map_map]
      have : l.map ((fun p : Mem => p.j.rekey p.key) ∘ mk) = l := by
        conv => rhs; rw [← List.map_id l]
        refine List.map_congr_left fun j _ => ?_
        show (j.rekey none_).rekey (bT j.key.data.toList) = j
        rw [bT_of, rekey_back]
      rw [this]
      rfl
  · intro j l hj hl k hk
    rcases List.mem_cons.1 hk with rfl | hk
    · exact hj
    · exact hl k hk
/-- a value that may be is shown, and read as it is -/
theorem show_back {t : List Nd} {j : J} (h : May t j) (hn : NumsOk t) (hl : j.show.length ≤ 1048576) : parseV j.show = .ok j := by
  obtain ⟨⟨h1, h2, h3⟩, h4, h5⟩ := h
  rw [round_both.1 j ⟨h1, by rw [← h3]; exact hn, by rw [← h3]; exact h4, h5, hl⟩, rekey_same h2]
/-- two values that show alike are one -/
theorem show_inj {t u : List Nd} {j k : J} (h : May t j) (hn : NumsOk t) (hl : j.show.length ≤ 1048576) (h' : May u k) (hn' : NumsOk u) (e : j.show = k.show) : j = k := by
  have h1 := show_back h hn hl
  have h2 := show_back h' hn' (by rw [← e]; exact hl)
  rw [e, h2] at h1
  injection h1 with h1
  exact h1.symm
end Go.Proofs.YtmolmphbhdbcaaaGreatDoor

/-! ### What is read is shown in no more bytes than it had: plain laws. -/
namespace Go.Proofs.YtmolmphbhdbcaaaGreatDoor
open Go.Lib (decodeL validD decDigits itoa)

/-! ### literals -/
theorem enc_high {n : Nat} (h : 128 ≤ n) : ∀ b ∈ encL n, 128 ≤ b.toNat := by
  have key : ∀ c : Nat, 128 ≤ c → (c < 55296 ∨ (57344 ≤ c ∧ c ≤ 1114111)) → ∀ b ∈ (if c < 128 then [UInt8.ofNat c] else if c < 2048 then [UInt8.ofNat (192 + c / 64), UInt8.ofNat (128 + c % 64)] else if c < 65536 then [UInt8.ofNat (224 + c / 4096), UInt8.ofNat (128 + c / 64 % 64), UInt8.ofNat (128 + c % 64)] else [UInt8.ofNat (240 + c / 262144), UInt8.ofNat (128 + c / 4096 % 64), UInt8.ofNat (128 + c / 64 % 64), UInt8.ofNat (128 + c % 64)]), 128 ≤ b.toNat := by
    intro c h1 h2 b hb
    rw [if_neg (by omega)] at hb
    split at hb
    · simp only [List.mem_cons, List.not_mem_nil, or_false] at hb
      rcases hb with rfl | rfl <;> (rw [of_nat (by omega)]; omega)
    · split at hb
      · simp only [List.mem_cons, List.not_mem_nil, or_false] at hb
        rcases hb with rfl | rfl | rfl <;> (rw [of_nat (by omega)]; omega)
      · simp only [List.mem_cons, List.not_mem_nil, or_false] at hb
        rcases hb with rfl | rfl | rfl | rfl <;> (rw [of_nat (by omega)]; omega)
  rw [encL_def]
  unfold Utf8.encode
  simp only
  obtain ⟨c, hc⟩ : ∃ c, (if Utf8.valid (n : Int) = true then (n : Int).toNat else Utf8.runeError) = c := ⟨_, rfl⟩
  have hv : 128 ≤ c ∧ (c < 55296 ∨ (57344 ≤ c ∧ c ≤ 1114111)) := by
    rw [← hc]
    split
    · rename_i h
      unfold Utf8.valid at h
      simp at h
      omega
    · unfold Utf8.runeError
      omega
  rw [hc]
  intro b hb
  refine key c hv.1 hv.2 b ?_
  split at hb
  · rename_i h1
    omega
  split at hb
  · rename_i h1 h2
    rw [if_neg h1, if_pos h2]
    simpa using hb
  split at hb
  · rename_i h1 h2 h3
    rw [if_neg h1, if_neg h2, if_pos h3]
    simpa using hb
  · rename_i h1 h2 h3
    rw [if_neg h1, if_neg h2, if_neg h3]
    simpa using hb
theorem esc_enc (n : Nat) : (escL (encL n)).length ≤ 6 := by
  rcases Nat.lt_or_ge n 128 with h | h
  · rw [enc_low h, escL_one]
    exact (esc1_len _).2
  · rw [escL_high (enc_high h)]
    have := encL_len n
    omega
theorem hex1_four {l r : List UInt8} {k : Nat} (h : hex1 l = .ok (k, r)) : l.length = r.length + 1 := by
  cases l with
  | nil => cases h
  | cons c l =>
    simp only [hex1] at h
    split at h
    · cases h
    · injection h with h
      injection h with h1 h2
      subst h2
      rfl
theorem half4_four {s : Bool} {l r : List UInt8} {k : Nat} (h : half4 s l = .ok (k, r)) : l.length = r.length + 4 := by
  unfold half4 at h
  split at h
  · cases h
  rename_i a l1 h1
  split at h
  · cases h
  split at h
  · cases h
  rename_i b l2 h2
  split at h
  · cases h
  split at h
  · cases h
  rename_i c l3 h3
  split at h
  · cases h
  rename_i d l4 h4
  injection h with h
  injection h with e1 e2
  subst e1 e2
  have := hex1_four h1
  have := hex1_four h2
  have := hex1_four h3
  have := hex1_four h4
  omega
theorem escV_short {l r t : List UInt8} (h : escV l = .ok (t, r)) : (escL t).length + r.length ≤ l.length + 1 := by
  cases l with
  | nil => cases h
  | cons c l =>
    simp only [escV] at h
    split at h
    · injection h with h; injection h with h1 h2; subst h1 h2
      have : (escL [47]).length = 1 := rfl
      simp only [List.length_cons]
      omega
    split at h
    · rename_i k hk
      injection h with h; injection h with h1 h2; subst h1 h2
      have h2 : (escL (encL k)).length ≤ 2 := by
        unfold shortV at hk
        repeat' split at hk
        all_goals first | (cases hk; done) | (injection hk with hk; subst hk; rw [enc_low (by decide)]; decide)
      simp only [List.length_cons]
      omega
    split at h
    · cases h
    split at h
    · cases h
    rename_i n r1 h1
    have a1 := half4_four h1
    split at h
    · split at h
      · cases h
      rename_i r2 h2
      have a2 := want1_less h2
      split at h
      · cases h
      rename_i r3 h3
      have a3 := want1_less h3
      split at h
      · cases h
      rename_i k r4 h4
      have a4 := half4_four h4
      injection h with h; injection h with h1 h2; subst h1 h2
      have := esc_enc (pairOf n k)
      simp only [List.length_cons]
      omega
    · injection h with h; injection h with h1 h2; subst h1 h2
      have := esc_enc n
      simp only [List.length_cons]
      omega
/-- what stands as it is, shown as it is -/
theorem plain_short {c : UInt8} {l r t : List UInt8} (h34 : c ≠ 34) (h92 : c ≠ 92) (h : plainV (c :: l) = .ok (t, r)) : (escL t).length + r.length ≤ (c :: l).length := by
  simp only [plainV] at h
  split at h
  · cases h
  rename_i h32
  split at h
  · rename_i hn
    injection h with h; injection h with h1 h2; subst h1 h2
    have hr : ¬ Utf8.decode (bT (c :: l)) 0 = (65533, 1) := by
      intro e
      apply hn
      unfold runeN
      rw [if_pos e]
    have e1 : runeN (c :: l) = (decodeL (c :: l)).2 := by
      unfold runeN
      rw [if_neg hr]
      rfl
    have hb : ¬ ((decodeL (c :: l)).1 = 65533 ∧ (decodeL (c :: l)).2 = 1) := fun k => hr (show decodeL (c :: l) = (65533, 1) from Prod.ext k.1 k.2)
    have hra := rune_at (c :: l) (by simp) hb
    rw [e1]
    have hle := hra.le
    have he : escL ((c :: l).take (decodeL (c :: l)).2) = (c :: l).take (decodeL (c :: l)).2 := by
      rcases Nat.lt_or_ge (decodeL (c :: l)).1 128 with h1 | h1
      · rw [hra.low h1]
        simp only [List.take_succ_cons, List.take_zero, escL_one]
        unfold esc1
        rw [if_neg (by rintro (h | h); exact h34 h; exact h92 h)]
        have hne : ∀ k : UInt8, k.toNat < 32 → c ≠ k := fun k hk e => h32 (by rw [e]; exact hk)
        rw [if_neg (hne 8 (by decide)), if_neg (hne 12 (by decide)), if_neg (hne 10 (by decide)), if_neg (hne 13 (by decide)), if_neg (hne 9 (by decide)), if_neg h32]
      · exact escL_high (hra.high h1)
    rw [he, List.length_take, List.length_drop]
    omega
  · split at h <;> cases h
theorem unqB_short : ∀ (f : Nat) (l r t : List UInt8), unqB f l = .ok (t, r) → (escL t).length + r.length + 1 ≤ l.length
  | 0, _, _, _, h => by cases h
  | f + 1, [], _, _, h => by cases h
  | f + 1, c :: l, r, t, h => by
    simp only [unqB] at h
    split at h
    · injection h with h; injection h with h1 h2; subst h1 h2
      simp [escL_nil]
    rename_i h34
    split at h
    · cases h
    rename_i t1 r1 h1
    split at h
    · cases h
    rename_i u r2 h2
    have a2 := unqB_short f r1 r2 u h2
    injection h with h; injection h with h3 h4; subst h3 h4
    rw [escL_append, List.length_append]
    have a1 : (escL t1).length + r1.length ≤ (c :: l).length := by
      simp only [pieceV] at h1
      split at h1
      · have := escV_short h1
        simp only [List.length_cons]
        omega
      · rename_i h92
        exact plain_short h34 h92 h1
    omega
theorem litV_short {l r t : List UInt8} (h : litV l = .ok (t, r)) : (quoteL (bT t)).length + r.length ≤ l.length := by
  unfold litV at h
  split at h
  · cases h
  · rename_i c l
    split at h
    · cases h
    rename_i hc
    split at h
    · cases h
    rename_i x hx
    injection h with h
    subst h
    simp only [unqV] at hx
    rw [if_neg hc] at hx
    have := unqB_short _ _ _ _ hx
    have e : (bT t).data.toList = t := by simp [bT]
    unfold quoteL
    rw [e]
    simp only [List.length_cons, List.length_append, List.length_nil]
    omega

/-! ### numbers -/
theorem decOn_lt (ds : List UInt8) (h : ∀ d ∈ ds, isDig d = true) : ∀ a, decOn a ds < (a + 1) * 10 ^ ds.length := by
  induction ds with
  | nil => intro a; rw [decOn_nil]; simp
  | cons d ds ih =>
    intro a
    rw [decOn_cons]
    have h1 := ih (fun x hx => h x (List.mem_cons_of_mem _ hx)) (decS a d)
    have hd := h d (List.mem_cons_self ..)
    unfold isDig at hd
    simp only [Bool.and_eq_true, decide_eq_true_eq] at hd
    have e := decS_eq a d
    refine Nat.lt_of_lt_of_le h1 ?_
    rw [List.length_cons, Nat.pow_succ, Nat.mul_comm (10 ^ ds.length) 10, ← Nat.mul_assoc]
    exact Nat.mul_le_mul_right _ (by omega)
theorem nDigits_le : ∀ (k u : Nat), u < 10 ^ (k + 1) → Lib.nDigits u ≤ k + 1
  | 0, u, h => by rw [Lib.nDigits_small (by simpa using h)]; omega
  | k + 1, u, h => by
    by_cases h10 : u < 10
    · rw [Lib.nDigits_small h10]; omega
    · rw [Lib.nDigits_big h10]
      have := nDigits_le k (u / 10) (by
        rw [Nat.pow_succ] at h
        omega)
      omega
theorem dec_short {ds : List UInt8} (h : ∀ d ∈ ds, isDig d = true) (hne : ds ≠ []) : (decDigits (decV ds)).length ≤ ds.length := by
  rw [Lib.decDigits_length]
  have h1 := decOn_lt ds h 0
  have e : decOn 0 ds = decV ds := rfl
  rw [e, Nat.zero_add, Nat.one_mul] at h1
  obtain ⟨k, hk⟩ : ∃ k, ds.length = k + 1 := ⟨ds.length - 1, by have := List.length_pos_iff.2 hne; omega⟩
  rw [hk] at h1 ⊢
  exact nDigits_le k _ h1
theorem digs_parts : ∀ l : List UInt8, digsOf l ++ digsEnd l = l ∧ ∀ d ∈ digsOf l, isDig d = true
  | [] => ⟨rfl, by simp [digsOf]⟩
  | c :: l => by
    obtain ⟨h1, h2⟩ := digs_parts l
    simp only [digsOf, digsEnd]
    split
    · rename_i hc
      rw [List.cons_append, h1]
      refine ⟨rfl, fun d hd => ?_⟩
      rcases List.mem_cons.1 hd with rfl | hd
      · exact hc
      · exact h2 d hd
    · rename_i hc
      exact ⟨rfl, by simp⟩
theorem whole_split {l ds r : List UInt8} (h : wholeV l = .ok (ds, r)) : ds.length + r.length = l.length ∧ (∀ d ∈ ds, isDig d = true) ∧ ds ≠ [] := by
  unfold wholeV at h
  split at h
  · rename_i r' he
    injection h with h; injection h with h1 h2; subst h1 h2
    have := opt1_yes he
    rw [this]
    exact ⟨by simp; omega, by decide, by simp⟩
  · unfold digs1 at h
    split at h
    · cases h
    rename_i hne
    injection h with h; injection h with h1 h2; subst h1 h2
    obtain ⟨a1, a2⟩ := digs_parts l
    have := congrArg List.length a1
    rw [List.length_append] at this
    exact ⟨this, a2, hne⟩
theorem frac_false {l r : List UInt8} (h : fracV l = .ok (false, r)) : r = l := by
  unfold fracV at h
  split at h
  · split at h
    · cases h
    · injection h with h; injection h with h _; cases h
  · injection h with h; injection h with _ h; exact h.symm
theorem exp_false {l r : List UInt8} (h : expV l = .ok (false, r)) : r = l := by
  unfold expV at h
  split at h
  · split at h
    · cases h
    · injection h with h; injection h with h _; cases h
  · injection h with h; injection h with _ h; exact h.symm
theorem opt1_part (x : UInt8) (l : List UInt8) : (if (opt1 x l).1 then 1 else 0) + (opt1 x l).2.length = l.length := by
  cases l with
  | nil => rfl
  | cons c l =>
    simp only [opt1]
    split <;> simp <;> omega
theorem numV_short {l r : List UInt8} {n : Int} (h : numV l = .ok (n, r)) : (itoa n).length + r.length ≤ l.length := by
  unfold numV at h
  split at h
  · cases h
  rename_i ds l2 hw
  split at h
  · cases h
  rename_i f l3 hf
  split at h
  · cases h
  rename_i e l4 he
  split at h
  · cases h
  rename_i hc
  injection h with h; injection h with h1 h2; subst h1 h2
  simp only [not_or, Bool.not_eq_true] at hc
  obtain ⟨hf0, he0, _, _⟩ := hc
  subst hf0 he0
  have e3 := frac_false hf
  have e4 := exp_false he
  subst e3 e4
  obtain ⟨w1, w2, w3⟩ := whole_split hw
  have hp := opt1_part 45 l
  have hd := dec_short w2 w3
  rw [itoa_sign]
  unfold signD
  rw [List.length_append]
  have hna : (signed (opt1 45 l).1 (decV ds)).natAbs = decV ds := by
    unfold signed
    split <;> omega
  rw [hna]
  cases hs : (opt1 45 l).1 with
  | true =>
    rw [hs] at hp
    simp only [if_true] at hp
    split <;> simp only [List.length_cons, List.length_nil] <;> omega
  | false =>
    rw [hs] at hp
    simp only [Bool.false_eq_true, if_false] at hp
    have : ¬ signed false (decV ds) < 0 := by
      show ¬ (decV ds : Int) < 0
      omega
    rw [decide_eq_false this]
    simp only [Bool.false_eq_true, if_false, List.length_nil]
    omega

/-! ### values -/
theorem wordV_short : ∀ {x l r : List UInt8}, wordV x l = .ok r → x.length + r.length = l.length := fun h => by have := wordV_less h; omega
theorem leafV_short' {c : UInt8} {l r : List UInt8} {j : J} (h : leafV c l = .ok (j, r)) : j.show.length + r.length ≤ l.length := by
  unfold leafV at h
  repeat' split at h
  all_goals first | (cases h; done) | skip
  all_goals (injection h with h; injection h with h1 h2; subst h1 h2; rename_i hw)
  · have := wordV_short hw
    have e : (oneJ 1 0 none_).show.length = 4 := rfl
    simp only [List.length_cons, List.length_nil] at this
    omega
  · have := wordV_short hw
    have e : (oneJ 2 0 none_).show.length = 5 := rfl
    simp only [List.length_cons, List.length_nil] at this
    omega
  · have := wordV_short hw
    have e : (oneJ 3 0 none_).show.length = 4 := rfl
    simp only [List.length_cons, List.length_nil] at this
    omega
  · exact litV_short hw
  · exact numV_short hw
theorem keyV_short' {had : List ByteArray} {l r : List UInt8} {k : ByteArray} (h : keyV true had l = .ok (k, r)) : (quoteL k).length + 1 + r.length ≤ l.length := by
  unfold keyV at h
  rw [if_neg (by decide)] at h
  have hk := skipB_len l
  split at h
  · cases h
  rename_i s r1 hl
  have a1 := litV_short hl
  split at h
  · cases h
  have hk2 := skipB_len r1
  split at h
  · cases h
  rename_i c r2 hs
  rw [hs] at hk2
  simp only [List.length_cons] at hk2
  split at h
  · injection h with h; injection h with h1 h2; subst h1 h2
    omega
  · cases h
theorem show_both : ∀ f : Nat, (∀ (n d : Nat) (l r : List UInt8) (j : J), pv f n d l = .ok (j, r) → j.show.length + r.length ≤ l.length) ∧
    ∀ (obj : Bool) (n d : Nat) (had : List ByteArray) (l r : List UInt8) (js : List J), pp f obj n d had l = .ok (js, r) → (J.shows obj true js).length + r.length + 1 ≤ l.length ∧ js ≠ []
  | 0 => by
    refine ⟨fun _ _ _ _ _ h => ?_, fun _ _ _ _ _ _ _ h => ?_⟩
    · simp only [pv] at h
      cases h
    · simp only [pp] at h
      cases h
  | f + 1 => by
    obtain ⟨ihv, ihp⟩ := show_both f
    refine ⟨fun n d l r j h => ?_, fun obj n d had l r js h => ?_⟩
    · cases l with
      | nil => simp only [pv] at h; cases h
      | cons c l =>
        simp only [pv] at h
        split at h
        · cases h
        split at h
        · cases h
        split at h
        · cases h
        split at h
        · split at h
          · rename_i r1 he
            injection h with h; injection h with h h'; subst h h'
            have := endV_yes he
            have e : (J.mk ⟨kindOf (c == 123), none_, 0, none_⟩ []).show.length = 2 := by cases (c == 123) <;> rfl
            simp only [List.length_cons]
            omega
          · rename_i r1 he
            split at h
            · cases h
            rename_i js r2 hp
            injection h with h; injection h with h h'; subst h h'
            obtain ⟨p1, p2⟩ := ihp _ _ _ _ _ _ _ hp
            have := endV_len he
            have e : (J.mk ⟨kindOf (c == 123), none_, 0, none_⟩ js).show.length = (J.shows (c == 123) true js).length + 2 := by
              cases (c == 123) <;> simp [J.show, kindOf]
            simp only [List.length_cons]
            omega
        · exact leafV_short' h
    · simp only [pp] at h
      split at h
      · cases h
      rename_i k l1 hk
      split at h
      · cases h
      rename_i j l2 hv
      have a1 := ihv _ _ _ _ _ hv
      have a3 := skipB_len l1
      have a2 : (pieceS obj (j.rekey k)).length + l1.length ≤ l.length + j.show.length := by
        unfold pieceS
        rw [rekey_show]
        cases obj with
        | false =>
          have := keyV_len hk
          simp only [Bool.false_eq_true, if_false, List.nil_append]
          omega
        | true =>
          have := keyV_short' hk
          have e : (j.rekey k).key = k := rk_key k j
          rw [e]
          simp only [if_true, List.length_append, List.length_cons, List.length_nil]
          omega
      split at h
      · cases h
      · rename_i l3 hm
        have a4 := moreV_less hm
        injection h with h; injection h with h h'; subst h h'
        rw [shows_cons, shows_nil, part_true, List.append_nil]
        exact ⟨by omega, by simp⟩
      · rename_i l3 hm
        have a4 := moreV_less hm
        split at h
        · cases h
        rename_i js2 l4 hp
        injection h with h; injection h with h h'; subst h h'
        obtain ⟨p1, p2⟩ := ihp _ _ _ _ _ _ _ hp
        rw [shows_cons, shows_false obj js2 p2, part_true, List.length_append, List.length_cons]
        exact ⟨by omega, by simp⟩
/-- what is read is shown in no more bytes -/
theorem parse_short {l : List UInt8} {j : J} (h : parseV l = .ok j) : j.show.length ≤ l.length := by
  unfold parseV at h
  split at h
  · cases h
  split at h
  · cases h
  rename_i j' r hp
  have a := (show_both _).1 _ _ _ _ _ hp
  have b := skipB_len l
  split at h
  · injection h with h
    subst h
    omega
  · cases h
end Go.Proofs.YtmolmphbhdbcaaaGreatDoor
