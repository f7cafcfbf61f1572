/-  -/
import Derived.Test.YthlfljmfggmfdaaGreatDoorQf37
import Derived.Test.YthlfljmfggmfdaaGreatDoorQf35
import Derived.Test.YthlfljmfggmfdaaGreatDoorQf15
import Derived.Test.YthlfljmfggmfdaaGreatDoorQf31
import Derived.Test.YthlfljmfggmfdaaGreatDoorQf34
import Derived.Test.YthlfljmfggmfdaaGreatDoorQf32
import Derived.Test.YthlfljmfggmfdaaGreatDoorQf30
/-! ###  -/
namespace Go.Proofs.YthlfljmfggmfdaaGreatDoor
open Go.Lib (decodeL validD decDigits itoa)
theorem enc_low {r : Nat} (h : r < 128) : encL r = [UInt8.ofNat r] := by
 have key : ∀ k : _root_.Fin 128, encL k.val = [UInt8.ofNat k.val] := by decide +kernel
 exact key ⟨r, h⟩
theorem hex_back {k : Nat} (h : k < 16) : hexV (hexB k) = some k := by
 have key : ∀ k : _root_.Fin 16, hexV (hexB k.val) = some k.val := by decide +kernel
 exact key ⟨k, h⟩
theorem take_low {l : List UInt8} {r n : Nat} (h : RuneAt l r n) (hr : r < 128) : l.take n = [UInt8.ofNat r] := by
 rw [← h.enc]
 unfold Lib.encodeRune
 rw [Lib.encodeRuneZ_one (by omega) (by omega)]
 rfl
theorem half_back {a b : Nat} (ha : a < 16) (hb : b < 16) (Y : List UInt8) : half4 false (48 :: 48 :: hexB a :: hexB b :: Y) = .ok (16 * a + b, Y) := by
 unfold half4
 simp only [hex1, hex_back ha, hex_back hb, show hexV 48 = some 0 from rfl]
 rw [if_neg (by decide), if_neg (by decide)]
 simp
theorem piece_back {l : List UInt8} (hne : l ≠ []) (hb : ¬ ((decodeL l).1 = 65533 ∧ (decodeL l).2 = 1)) (Y : List UInt8) : ∃ c x, escL (l.take (decodeL l).2) = c :: x ∧ c ≠ 34 ∧ pieceV (escL (l.take (decodeL l).2) ++ Y) = .ok (l.take (decodeL l).2, Y) := by
 have h := rune_at l hne hb
 have hu := uok_rune l hb hne
 obtain ⟨r, hr⟩ : ∃ r, (decodeL l).1 = r := ⟨_, rfl⟩
 obtain ⟨n, hn⟩ : ∃ n, (decodeL l).2 = n := ⟨_, rfl⟩
 rw [hr, hn] at h
 rw [hn] at hu ⊢
 have hlen : (l.take n).length = n := by rw [List.length_take]; have := h.le; omega
 rw [esc_rune h]
 cases ht : twoOf r with
 | some c =>
   have hlow : r < 128 := by
    unfold twoOf at ht
    repeat' split at ht
    all_goals first | omega | cases ht
   rw [take_low h hlow]
   unfold twoOf at ht
   repeat' split at ht
   all_goals first | (cases ht; done) | (injection ht with ht; rename_i hc; subst hc; subst ht; refine ⟨92, _, rfl, by decide, ?_⟩; exact congrArg (fun q => Except.ok (q, Y)) (enc_low (by decide)))
 | none =>
   simp only
   have hn34 : r ≠ 34 := by rintro rfl; cases ht
   have hn92 : r ≠ 92 := by rintro rfl; cases ht
   by_cases h32 : r < 32
   · rw [if_pos h32, take_low h (by omega)]
     refine ⟨92, _, rfl, by decide, ?_⟩
     show escV (117 :: 48 :: 48 :: hexB (r / 16) :: hexB (r % 16) :: Y) = _
     simp only [escV]
     rw [if_neg (by decide), show shortV 117 = none from rfl]
     simp only
     rw [if_neg (by decide), half_back (by omega) (by omega)]
     simp only
     rw [show 16 * (r / 16) + r % 16 = r by omega, if_neg (by unfold isHigh; simp; omega), enc_low (by omega)]
   · rw [if_neg h32, h.enc]
     obtain ⟨c, x, hcx⟩ : ∃ c x, l.take n = c :: x := by
      cases hx : l.take n with
      | nil => rw [hx] at hlen; have := h.pos; simp at hlen; omega
      | cons c x => exact ⟨c, x, rfl⟩
     have hc : c ≠ 34 ∧ c ≠ 92 ∧ ¬ c.toNat < 32 := by
      rcases Nat.lt_or_ge r 128 with h1 | h1
      · have e := take_low h h1
        rw [hcx] at e
        injection e with e _
        have ec : c.toNat = r := by rw [e]; simp; omega
        refine ⟨?_, ?_, by omega⟩
        · rintro rfl; exact hn34 ec.symm
        · rintro rfl; exact hn92 ec.symm
      · have := h.high h1 c (by rw [hcx]; exact List.mem_cons_self ..)
        refine ⟨?_, ?_, by omega⟩
        · rintro rfl; revert this; decide
        · rintro rfl; revert this; decide
     refine ⟨c, x, hcx, hc.1, ?_⟩
     have hU : l.take n ≠ [] := by rw [hcx]; simp
     have hub : ¬ ((decodeL (l.take n)).1 = 65533 ∧ (decodeL (l.take n)).2 = 1) := by
      intro hbad
      have hv := uok_valid hu
      rw [Lib.validD_step _ hU, if_pos hbad] at hv
      cases hv
     have e1 : decodeL l = decodeL (l.take n) := by
      have := dec_loc (l.take n) (l.drop n) hU hub
      rwa [List.take_append_drop] at this
     have e2 : decodeL (l.take n ++ Y) = decodeL l := by rw [dec_loc (l.take n) Y hU hub, e1]
     have hrn : runeN (l.take n ++ Y) = n := by
      have hd : Utf8.decode (bT (l.take n ++ Y)) 0 = decodeL l := e2
      unfold runeN
      rw [if_neg (by
       intro k
       rw [hd] at k
       exact hb ⟨congrArg Prod.fst k, congrArg Prod.snd k⟩), hd, hn]
     have hp : pieceV (l.take n ++ Y) = plainV (l.take n ++ Y) := by
      rw [hcx, List.cons_append]
      simp only [pieceV]
      rw [if_neg hc.2.1]
     rw [hp]
     have hpl : plainV (l.take n ++ Y) = .ok ((l.take n ++ Y).take (runeN (l.take n ++ Y)), (l.take n ++ Y).drop (runeN (l.take n ++ Y))) := by
      have hpos := h.pos
      rw [hcx, List.cons_append] at hrn ⊢
      simp only [plainV]
      rw [if_neg hc.2.2, if_pos (by rw [hrn]; omega)]
     rw [hpl, hrn]
     have ha : (l.take n ++ Y).take n = l.take n := by
      have := List.take_left (l₁ := l.take n) (l₂ := Y)
      rwa [hlen] at this
     have hd : (l.take n ++ Y).drop n = Y := by
      have := List.drop_left (l₁ := l.take n) (l₂ := Y)
      rwa [hlen] at this
     rw [ha, hd]
theorem unq_back : ∀ (k : Nat) (l : List UInt8), l.length ≤ k → validD l = true → ∀ (t : List UInt8) (f : Nat), (escL l ++ 34 :: t).length < f → unqB f (escL l ++ 34 :: t) = .ok (l, t)
 | _, [], _, _, t, f, hf => by
   obtain ⟨g, rfl⟩ : ∃ g, f = g + 1 := ⟨f - 1, by omega⟩
   rfl
 | 0, c :: l, h, _, _, _, _ => by simp at h
 | k + 1, c :: l, h, hv, t, f, hf => by
   obtain ⟨m, hm⟩ : ∃ m, c :: l = m := ⟨_, rfl⟩
   rw [hm] at h hv hf ⊢
   have hne : m ≠ [] := by rw [← hm]; simp
   obtain ⟨hra, hvd⟩ := valid_step hv hne
   have hb : ¬ ((decodeL m).1 = 65533 ∧ (decodeL m).2 = 1) := by
    intro hbad
    rw [Lib.validD_step _ hne, if_pos hbad] at hv
    cases hv
   have hsplit : escL m = escL (m.take (decodeL m).2) ++ escL (m.drop (decodeL m).2) := by rw [← escL_append, List.take_append_drop]
   obtain ⟨c', x, h1, h2, h3⟩ := piece_back hne hb (escL (m.drop (decodeL m).2) ++ 34 :: t)
   obtain ⟨g, rfl⟩ : ∃ g, f = g + 1 := ⟨f - 1, by omega⟩
   have hl : (m.drop (decodeL m).2).length ≤ k := by
    have := hra.pos
    rw [List.length_drop]
    omega
   rw [hsplit, List.append_assoc] at hf ⊢
   have hx : escL (m.take (decodeL m).2) ++ (escL (m.drop (decodeL m).2) ++ 34 :: t) = c' :: (x ++ (escL (m.drop (decodeL m).2) ++ 34 :: t)) := by rw [h1]; rfl
   have ih := unq_back k _ hl hvd t g (by rw [h1] at hf; simp only [List.length_append, List.length_cons] at hf ⊢; omega)
   rw [hx] at h3 ⊢
   simp only [unqB]
   rw [if_neg h2, h3]
   simp only
   rw [ih]
   simp only
   rw [List.take_append_drop]
theorem quote_back {s : ByteArray} (hv : vU s = true) (t : List UInt8) : litV (quoteL s ++ t) = .ok (s.data.toList, t) := by
 unfold quoteL litV
 rw [List.cons_append]
 simp only
 rw [if_neg (by decide)]
 simp only [unqV]
 rw [if_neg (by decide), List.append_assoc, show [34] ++ t = 34 :: t from rfl, unq_back s.data.toList.length s.data.toList (Nat.le_refl _) hv _ _ (by simp)]
theorem rekey_back (k : ByteArray) (j : J) : (j.rekey k).rekey j.key = j := by cases j; rfl
theorem rekey_flat_len (k : ByteArray) (l : List J) : (J.flats (l.map (J.rekey k))).length = (J.flats l).length := by
 induction l with
 | nil => rfl
 | cons j l ih =>
   simp only [List.map_cons, flats_cons, List.length_append, rekey_len]
   rw [ih]
theorem rekey_deep_eq (k : ByteArray) (l : List J) : J.deeps (l.map (J.rekey k)) = J.deeps l := by
 induction l with
 | nil => rfl
 | cons j l ih =>
   simp only [List.map_cons, J.deeps, rk_deep]
   rw [ih]
structure Back (j : J) : Prop where
 ok : J.Ok vU j
 nums : NumsOk j.flat
 len : j.flat.length ≤ 4000
 deep : j.deep ≤ 64
 text : j.show.length ≤ 1048576
theorem mem_flats {j : J} : ∀ {l : List J}, j ∈ l → (∀ x ∈ j.flat, x ∈ J.flats l) ∧ j.flat.length ≤ (J.flats l).length ∧ j.deep ≤ J.deeps l
 | [], h => by simp at h
 | k :: l, h => by
   rw [flats_cons]
   simp only [J.deeps, List.length_append]
   rcases List.mem_cons.1 h with rfl | h
   · exact ⟨fun x hx => List.mem_append_left _ hx, by omega, by omega⟩
   · obtain ⟨h1, h2, h3⟩ := mem_flats h
     exact ⟨fun x hx => List.mem_append_right _ (h1 x hx), by omega, by omega⟩
theorem mem_oks {V : ByteArray → Bool} {j : J} : ∀ {l : List J}, J.Oks V l → j ∈ l → J.Ok V j
 | [], _, h => by simp at h
 | k :: l, ho, h => by
   simp only [J.Oks] at ho
   rcases List.mem_cons.1 h with rfl | h
   · exact ho.1
   · exact mem_oks ho.2 h
theorem mem_shows {o : Bool} {j : J} : ∀ {l : List J} (f : Bool), j ∈ l → j.show.length ≤ (J.shows o f l).length
 | [], _, h => by simp at h
 | k :: l, f, h => by
   rw [shows_cons, List.length_append]
   rcases List.mem_cons.1 h with rfl | h
   · unfold partShow
     simp only [List.length_append]
     omega
   · have := mem_shows (o := o) false h
     omega
theorem keysOk_out {V : ByteArray → Bool} : ∀ {ks had : List ByteArray}, keysOk V had ks → (∀ k ∈ ks, V k = true ∧ k ∉ had) ∧ ks.Nodup
 | [], _, _ => ⟨by simp, List.nodup_nil⟩
 | k :: ks, had, h => by
   simp only [keysOk] at h
   obtain ⟨h1, h2, h3⟩ := h
   obtain ⟨i1, i2⟩ := keysOk_out h3
   refine ⟨fun x hx => ?_, List.nodup_cons.2 ⟨fun hm => (i1 k hm).2 (by simp), i2⟩⟩
   rcases List.mem_cons.1 hx with rfl | hx
   · exact ⟨h1, h2⟩
   · exact ⟨(i1 x hx).1, fun hm => (i1 x hx).2 (List.mem_append_left _ hm)⟩
def pieceS (o : Bool) (j : J) : List UInt8 := (if o then quoteL j.key ++ [58] else []) ++ j.show
theorem part_true (o : Bool) (j : J) : partShow o true j = pieceS o j := by simp [partShow, pieceS]
theorem part_false (o : Bool) (j : J) : partShow o false j = 44 :: pieceS o j := by simp [partShow, pieceS]
theorem shows_false (o : Bool) : ∀ (l : List J), l ≠ [] → J.shows o false l = 44 :: J.shows o true l
 | [], h => absurd rfl h
 | j :: l, _ => by rw [shows_cons, shows_cons, part_true, part_false]; rfl
theorem shows_join (o : Bool) (e : List UInt8) : ∀ (l : List J), J.shows o true l ++ e = joinL e (l.map (pieceS o))
 | [] => by simp [J.shows, joinL]
 | [j] => by rw [shows_cons, shows_nil, part_true]; simp [joinL]
 | j :: k :: l => by
   have ih := shows_join o e (k :: l)
   rw [shows_cons, shows_false o (k :: l) (by simp), part_true, List.map_cons, List.map_cons, joinL, ← List.map_cons, ← ih]
   simp
theorem keyText_quote {k : ByteArray} (hv : vU k = true) : KeyText (quoteL k ++ [58]) k.data.toList := by
 intro had r hh
 unfold keyV
 rw [if_neg (by decide), show skipB (quoteL k ++ [58] ++ r) = quoteL k ++ (58 :: r) from by
  rw [List.append_assoc]; rfl, quote_back hv]
 simp only
 rw [if_neg (by rw [hasKey_not.2 hh]; decide), show skipB (58 :: r) = 58 :: r from rfl]
 rfl
theorem parse_quote {s : ByteArray} (hv : vU s = true) (hl : (quoteL s).length ≤ 1048576) : parseV (quoteL s) = .ok (oneJ 5 0 s) := by
 have h := quote_back hv []
 rw [List.append_nil] at h
 refine parse_of_pv hl rfl ?_
 unfold fuelOf
 rw [show quoteL s = 34 :: (escL s.data.toList ++ [34]) from rfl] at h ⊢
 rw [pv_leaf (by decide) (by decide) (by decide) (by omega) (by omega)]
 have hlf : ∀ x, leafV 34 (34 :: x) = match litV (34 :: x) with | .error b => .error b | .ok (s, r) => .ok (oneJ 5 0 (bT s), r) := fun x => rfl
 rw [hlf, h]
 simp only
 rw [bT_of]
theorem round_both : (∀ j : J, Back j → parseV j.show = .ok (j.rekey none_)) ∧ ∀ l : List J, ∀ j ∈ l, Back j → parseV j.show = .ok (j.rekey none_) := by
 refine J.both ?_ (by simp) ?_
 · intro h l ih hb
   obtain ⟨hok, hnum, hlen, hdeep, htext⟩ := hb
   rw [flat_mk] at hlen hnum
   simp only [List.length_cons] at hlen
   have hn := hnum ⟨h.kind, h.key, h.n, h.s, (J.flats l).length + 1⟩ (List.mem_cons_self ..)
   have hd' : 1 + J.deeps l ≤ 64 := by simp only [J.deep] at hdeep; omega
   have hkid : ∀ o, (J.shows o true l).length + 2 ≤ 1048576 → J.Oks vU l → ∀ j ∈ l, parseV j.show = .ok (j.rekey none_) := fun o hs hoks j hj => by
    obtain ⟨m1, m2, m3⟩ := mem_flats hj
    refine ih j hj ⟨mem_oks hoks hj, fun x hx => hnum x (List.mem_cons_of_mem _ (m1 x hx)), by omega, by omega, ?_⟩
    have := mem_shows (o := o) true hj
    omega
   obtain ⟨kind, key, n, s⟩ := h
   simp only [J.Ok] at hok
   rcases hok with ⟨hl, rfl⟩ | ⟨hk, ⟨h1, h2⟩, hoks, hkeys⟩ | ⟨hk, ⟨h1, h2⟩, hoks, hkeys⟩
   · rcases hl with ⟨hk, h1, h2⟩ | ⟨hk, h2⟩ | ⟨hk, h1, h2⟩
     · simp only at hk h1 h2
       subst h1 h2
       rcases hk with rfl | rfl | rfl <;> rfl
     · simp only at hk h2
       subst hk h2
       simp only at hn
       have : (Lib.itoa n).length ≤ 21 := Lib.itoa_length_le n hn.1 hn.2
       exact parse_itoa n hn.1 hn.2 (by omega)
     · simp only at hk h1 h2
       subst hk h1
       exact parse_quote h2 htext
   · simp only at hk h1 h2
     subst hk h1 h2
     have hsh : (J.mk ⟨6, key, 0, none_⟩ l).show = 91 :: (J.shows false true l ++ [93]) := by simp [J.show]
     rw [hsh] at htext ⊢
     simp only [List.length_cons, List.length_append, List.length_nil] at htext
     have hp := hkid false (by omega) hoks
     have hkn : ∀ j ∈ l, j.rekey none_ = j := fun j hj => rekey_same (hkeys j hj)
     rw [shows_join, show l.map (pieceS false) = (l.map fun j => (j.show, j)).map (·.1) by rw [List.map_map]; exact List.map_congr_left fun j _ => by simp [pieceS]]
     have hjl : (joinL [93] ((l.map fun j => (j.show, j)).map (·.1))).length ≤ 1048575 := by
      rw [show (l.map fun j => (j.show, j)).map (·.1) = l.map (pieceS false) by rw [List.map_map]; exact List.map_congr_left fun j _ => by simp [pieceS], ← shows_join]
      simp only [List.length_append, List.length_cons, List.length_nil]
      omega
     have h2 : (l.map fun j => (j.show, j)).map (·.2) = l := by rw [List.map_map]; exact List.map_id _
     rw [parse_list (l.map fun j => (j.show, j)) (fun p hpm => by
      obtain ⟨j, hj, rfl⟩ := List.mem_map.1 hpm
      rw [hp j hj, hkn j hj]) hjl (by rw [h2]; omega) (by rw [h2]; omega)]
     congr 1
     rw [List.map_map]
     have : l.map ((fun p : List UInt8 × J => p.2.rekey none_) ∘ fun j => (j.show, j)) = l := by
      conv => rhs; rw [← List.map_id l]
      exact List.map_congr_left fun j hj => hkn j hj
     rw [this]
     rfl
   · simp only at hk h1 h2
     subst hk h1 h2
     have hsh : (J.mk ⟨7, key, 0, none_⟩ l).show = 123 :: (J.shows true true l ++ [125]) := by simp [J.show]
     rw [hsh] at htext ⊢
     simp only [List.length_cons, List.length_append, List.length_nil] at htext
     have hp := hkid true (by omega) hoks
     obtain ⟨hkv, hnd⟩ := keysOk_out hkeys
     let mk : J → Mem := fun j => ⟨quoteL j.key ++ [58], j.key.data.toList, j.show, j.rekey none_⟩
     have hpc : l.map (pieceS true) = (l.map mk).map Mem.piece := by rw [List.map_map]; exact List.map_congr_left fun j _ => by simp [pieceS, mk, Mem.piece]
     have hmj : (l.map mk).map Mem.j = l.map (J.rekey none_) := by rw [List.map_map]; rfl
     rw [shows_join, hpc]
     have hjl : (joinL [125] ((l.map mk).map Mem.piece)).length ≤ 1048575 := by
      rw [← hpc, ← shows_join]
      simp only [List.length_append, List.length_cons, List.length_nil]
      omega
     rw [parse_obj (l.map mk) (fun p hpm => by
      obtain ⟨j, hj, rfl⟩ := List.mem_map.1 hpm
      exact ⟨hp j hj, keyText_quote (hkv j.key (List.mem_map.2 ⟨j, hj, rfl⟩)).1⟩) (by
      have e : (l.map mk).map Mem.k = (l.map J.key).map fun k => k.data.toList := by rw [List.map_map, List.map_map]; rfl
      rw [e]
      refine List.pairwise_map.2 (hnd.imp fun {a b} hab e => hab ?_)
      rw [← bT_of a, ← bT_of b, e]) hjl (by rw [hmj, rekey_flat_len]; omega) (by rw [hmj, rekey_deep_eq]; omega)]
     congr 1
     rw [List.map_map]
     have : l.map ((fun p : Mem => p.j.rekey p.key) ∘ mk) = l := by
      conv => rhs; rw [← List.map_id l]
      refine List.map_congr_left fun j _ => ?_
      show (j.rekey none_).rekey (bT j.key.data.toList) = j
      rw [bT_of, rekey_back]
     rw [this]
     rfl
 · intro j l hj hl k hk
   rcases List.mem_cons.1 hk with rfl | hk
   · exact hj
   · exact hl k hk
theorem show_back {t : List Nd} {j : J} (h : May t j) (hn : NumsOk t) (hl : j.show.length ≤ 1048576) : parseV j.show = .ok j := by
 obtain ⟨⟨h1, h2, h3⟩, h4, h5⟩ := h
 rw [round_both.1 j ⟨h1, by rw [← h3]; exact hn, by rw [← h3]; exact h4, h5, hl⟩, rekey_same h2]
end Go.Proofs.YthlfljmfggmfdaaGreatDoor

/-! ###  -/
namespace Go.Proofs.YthlfljmfggmfdaaGreatDoor
open Go.Lib (decodeL validD decDigits itoa)
end Go.Proofs.YthlfljmfggmfdaaGreatDoor

/-! ###  -/
namespace Go.Proofs.YthlfljmfggmfdaaGreatDoor
open Go.RowKit
set_option maxRecDepth 100000 in
theorem mName_ok : ∀ i : Nat, i < 20 → ∀ n : Nat, n < 6 → isName (mName i n) = true ∧ (mName i n).size = 3 ∧ (mName i n).data[0]? = some (UInt8.ofNat (97 + i)) := by decide +kernel
set_option maxRecDepth 100000 in
theorem mCell_ok : ∀ K : Nat, K < 5 → ∀ b : Bool, ∀ n : Nat, n < 6 → cellErr vU ((K : Int) + 1) b (cellB ((K : Int) + 1) b n) = 0 ∧ (cellH ((K : Int) + 1) (cellB ((K : Int) + 1) b n)).s.size ≤ 4 ∧ -9223372036854775808 ≤ (cellH ((K : Int) + 1) (cellB ((K : Int) + 1) b n)).n ∧ (cellH ((K : Int) + 1) (cellB ((K : Int) + 1) b n)).n ≤ 9223372036854775807 := by
 intro K hK b n hn
 match K, hK with
 | 0, _ | 1, _ | 2, _ | 3, _ | 4, _ =>
   match n, hn with
   | 0, _ | 1, _ | 2, _ | 3, _ | 4, _ | 5, _ => cases b <;> refine ⟨by kernel_rfl, by decide +kernel, by decide +kernel, by decide +kernel⟩
theorem made_at (L : List Trip) (i : Nat) : ∃ (K : Nat) (b : Bool) (n : Nat), K < 5 ∧ n < 6 ∧ mCol L i = colB i ((K : Int) + 1) b n ∧ mCell L i = cellB ((K : Int) + 1) b n :=
 ⟨brg (L.getD i (0, 0, 0)).1 5, mB (L.getD i (0, 0, 0)), brg (L.getD i (0, 0, 0)).2.2 6, brg_lt _ (by omega), brg_lt _ (by omega), rfl, rfl⟩
theorem made_named (L : List Trip) {m : Nat} (hm : m ≤ 20) : namedB (mCols L m) = true := by
 refine decide_eq_true ⟨fun c hc => ?_, ?_⟩
 · obtain ⟨i, hi, rfl⟩ := List.mem_map.1 hc
   obtain ⟨K, b, n, hK, hn, e1, _⟩ := made_at L i
   rw [e1]
   exact (mName_ok i (by have := List.mem_range.1 hi; omega) n hn).1
 · refine List.pairwise_iff_getElem.2 fun i j hi hj hij => ?_
   rw [List.length_map, mCols_len] at hi hj
   have g : ∀ k, (hk : k < ((mCols L m).map Col.name).length) → ((mCols L m).map Col.name)[k] = (mCol L k).name := fun k hk => by simp [mCols]
   rw [g, g]
   intro h
   obtain ⟨K, b, n, _, hn, e1, _⟩ := made_at L i
   obtain ⟨K', b', n', _, hn', e1', _⟩ := made_at L j
   rw [e1, e1'] at h
   have h' : mName i n = mName j n' := h
   have a := (mName_ok i (by omega) n hn).2.2
   have c := (mName_ok j (by omega) n' hn').2.2
   rw [h', c] at a
   injection a with a
   have : (UInt8.ofNat (97 + j)).toNat = (UInt8.ofNat (97 + i)).toNat := by rw [a]
   simp at this
   omega
theorem made_row (L : List Trip) (m : Nat) : rowErr vU (mCols L m) (mRow L m) = 0 := by
 refine rowErr_zero.2 ⟨by rw [mCols_len, mRow_len], fun i h h' => ?_⟩
 obtain ⟨K, b, n, hK, hn, e1, e2⟩ := made_at L i
 have q1 : (mCols L m)[i] = mCol L i := by simp [mCols]
 have q2 : (mRow L m)[i] = mCell L i := by simp [mRow]
 rw [q1, q2, e1, e2]
 exact (mCell_ok K hK b n hn).1
theorem made_fine (L : List Trip) {m : Nat} (hm : m ≤ 20) : Fine 5 (objC (mCols L m) (mRow L m)).flat ∧ (objC (mCols L m) (mRow L m)).flat.length ≤ 21 := by
 have hml : (memsC (mCols L m) (mRow L m)).length = m := by rw [memsC_len (by rw [mCols_len, mRow_len]), mCols_len]
 have hfl := (flats_leaf (memsC (mCols L m) (mRow L m)) (memsC_kids _ _)).1
 have hlen : (objC (mCols L m) (mRow L m)).flat.length ≤ 21 := by
  unfold objC
  rw [flat_mk, List.length_cons, hfl, hml]
  omega
 refine ⟨⟨fun x hx => ?_, by omega, ?_⟩, hlen⟩
 · unfold objC at hx
   rw [flat_mk, List.mem_cons] at hx
   rcases hx with rfl | hx
   · exact ⟨Nat.zero_le _, Nat.zero_le _, by show (-9223372036854775808 : Int) ≤ 0; omega, by show (0 : Int) ≤ 9223372036854775807; omega⟩
   · have key : ∀ l : List J, (∀ j ∈ l, ∃ h, j = .mk h [] ∧ h.key.size ≤ 5 ∧ h.s.size ≤ 5 ∧ -9223372036854775808 ≤ h.n ∧ h.n ≤ 9223372036854775807) → ∀ x ∈ J.flats l, x.key.size ≤ 5 ∧ x.s.size ≤ 5 ∧ -9223372036854775808 ≤ x.n ∧ x.n ≤ 9223372036854775807 := by
      intro l
      induction l with
      | nil => intro _ x hx; simp [J.flats] at hx
      | cons j l ih =>
        intro h x hx
        rw [flats_cons, List.mem_append] at hx
        rcases hx with hx | hx
        · obtain ⟨hd, rfl, h1⟩ := h j (by simp)
          rw [flat_mk] at hx
          simp [J.flats] at hx
          subst hx
          exact h1
        · exact ih (fun i hi => h i (by simp [hi])) x hx
     refine key _ (fun j hj => ?_) x hx
     obtain ⟨⟨c, d⟩, hp, rfl⟩ := List.mem_map.1 hj
     obtain ⟨i, hi, he⟩ := List.getElem_of_mem hp
     rw [List.getElem_zip] at he
     injection he with h1 h2
     have hi' : i < m := by rw [List.length_zip, mCols_len, mRow_len] at hi; omega
     obtain ⟨K, b, n, hK, hn, e1, e2⟩ := made_at L i
     have q1 : (mCols L m)[i]'(by rw [mCols_len]; exact hi') = mCol L i := by simp [mCols]
     have q2 : (mRow L m)[i]'(by rw [mRow_len]; exact hi') = mCell L i := by simp [mRow]
     rw [q1, e1] at h1
     rw [q2, e2] at h2
     subst h1 h2
     have a := mName_ok i (by omega) n hn
     have c := mCell_ok K hK b n hn
     exact ⟨_, rfl, by show (mName i n).size ≤ 5; omega, by show (cellH _ _).s.size ≤ 5; exact Nat.le_trans c.2.1 (by omega), c.2.2.1, c.2.2.2⟩
 · have : (objC (mCols L m) (mRow L m)).flat.length * ((objC (mCols L m) (mRow L m)).flat.length * (12 * 5 + 32)) ≤ 21 * (21 * 92) := Nat.mul_le_mul hlen (Nat.mul_le_mul hlen (by omega))
   omega
end Go.Proofs.YthlfljmfggmfdaaGreatDoor

/-! ###  -/
namespace Go.Proofs.YthlfljmfggmfdaaGreatDoor
open Go.RowKit
theorem out_listC (l : List UInt8) : (⟨l.toArray⟩ : ByteArray).data.toList = l := by simp
theorem out_sizeC (l : List UInt8) : (⟨l.toArray⟩ : ByteArray).size = l.length := by simp [ByteArray.size]
theorem show_len {t : List Nd} {j : J} (hm : May t j) (hf : Fine 5 t) (hr : t.length ≤ 21) : j.show.length ≤ 1000000 := by
 have e := hm.1.2.2
 have h1 := show_room.1 j (by rw [← e]; exact hf.nums)
 have h2 := room_le (C := 5) (t := t) fun x hx => ⟨(hf.every x hx).1, (hf.every x hx).2.1⟩
 rw [← e] at h1
 have : t.length * (12 * 5 + 32) ≤ 21 * 92 := Nat.mul_le_mul hr (by omega)
 omega
theorem parse_okC (X : ByteArray) (j : J) (w : World) (hX : X.size ≤ 1073741824) (hp : parseV X.data.toList = .ok j) (hE : Errs w) (hT : Tabs w) :
 Calls Tryz.prog 26 #[.string X] w fun e w' => (∃ v, e = .returned (.tuple #[v, .int .i64 0, .int .i64 0]) ∧ NodesT w.heap.size w' v j.flat) ∧ Old w w' :=
 (jparse_run X w hX hE hT).mono fun e w' h => ⟨by
   have h1 := h.1
   unfold JParsed at h1
   rw [hp] at h1
   obtain ⟨v, h2, h3⟩ := h1
   exact ⟨v, h2, SlT.of_own h3⟩, h.2⟩
theorem fit_fine {t : List Nd} (h : Fine 5 t) : NdFit t := fun x hx => ⟨(h.every x hx).2.2, Nat.le_trans (h.every x hx).2.1 (by omega)⟩
theorem sameRow_self (r : List Cell) : sameRow r r = true := by simp [sameRow]
structure MadeOk (cols : List Col) (r : List Cell) (t : List Nd) (X : ByteArray) : Prop where
 tape : RowT cols r t 0
 row : RowOf cols t r 0
 fine : Fine 5 t
 says : ∃ j : J, May t j ∧ ShowT t j.show 0 ∧ X = ⟨j.show.toArray⟩ ∧ parseV X.data.toList = .ok j ∧ t = j.flat
 size : X.size ≤ 1000000
 names : ∀ c ∈ cols, c.name.size ≤ maxLen
 few : cols.length ≤ 20
theorem made_ok (L : List Trip) : ∃ t X, MadeOk (mCols L (mLen L)) (mRow L (mLen L)) t X := by
 have hm : mLen L ≤ 20 := by unfold mLen; omega
 have hn := made_named L hm
 have hr := made_row L (mLen L)
 have hl : (mCols L (mLen L)).length ≤ 3999 := by rw [mCols_len]; omega
 obtain ⟨hf, hfl⟩ := made_fine L hm
 have hmay := objC_may hn hr hl
 have hs := show_len hmay hf hfl
 refine ⟨_, _, RowT_fine hn hr hl, RowOf_mems hn hr hl, hf, ⟨_, hmay, .inr ⟨_, hmay, .inl ⟨by unfold maxText; omega, rfl, rfl⟩⟩, rfl, ?_, rfl⟩, ?_, fun c hc => ?_, by rw [mCols_len]; exact hm⟩
 · rw [out_listC]
   exact show_back hmay hf.nums (by omega)
 · rw [out_sizeC]
   exact hs
 · have := name_size (names_ok hn c hc)
   unfold maxLen
   omega
set_option maxRecDepth 100000 in
set_option maxHeartbeats 4000000 in
theorem back_run (u : Value) (L : List Trip) (w : World) (h : TripsIs w u L) (hE : Errs w) (hT : Tabs w) (hP : PowTab w) :
 Calls Tryz.prog 4 #[.agg #[u]] w fun e w' => e = .returned (.bool true) ∧ Old w w' := by
 have HT := hide hT
 have HE := hide hE
 have HP := hide hP
 have CM := hide (fun (w' : World) (o : Old w w') => made_run u L w' (Sl.old h o))
 have CW := hide (fun (w' : World) (o : Old w w') => works19_run w' (hE.old o) (hT.old o) (hP.old o))
 obtain ⟨t, X, hok⟩ := made_ok L
 unfold MadeT at CM
 generalize mCols L (mLen L) = cols at *
 generalize mRow L (mLen L) = r at *
 have OK := hide hok
 clear h hT hE hP hok
 unfold Ret at CW
 go_enter Tryz.func4, Tryz.ntmps4
 go_wp2_with fail
 refine (CW.out _ (Old.alloc (Old.refl _) _)).mono ?_
 rintro e w0 ⟨rfl, o0⟩
 have O0 := hide (Old.trans (Old.alloc (Old.refl _) _) o0)
 have hbox : w0.cell? ⟨w.heap.size, 0, none⟩ = some u := o0.cell ((cell_of_heap (heap_alloc_new w _)).trans rfl)
 clear o0
 go_wp2_with fail
 refine (CM.out _ O0.out).mono ?_
 rintro e w1 ⟨cv, rv, rfl, c1, r1, o1⟩
 have O1 := hide (Old.trans O0.out o1)
 have C1 := hide c1.sl
 have R1 := hide r1.sl
 clear o1 c1 r1 hbox
 go_wp2_with fail
 refine (tapeR_run cv rv cols r t 0 w1 C1.out R1.out OK.out.names (by have := OK.out.few; omega) (HT.out.old O1.out) OK.out.tape).mono ?_
 rintro e w2 ⟨tv, rfl, t2, o2⟩
 have O2 := hide (Old.trans O1.out o2)
 have C2 := hide (Sl.old C1.out o2)
 have R2 := hide (Sl.old R1.out o2)
 have T2 := hide t2.sl
 clear t2 o2
 go_wp2_with fail
 refine (row_run cv tv cols t r 0 w2 C2.out T2.out OK.out.fine.texts (fit_fine OK.out.fine) OK.out.names (by have := OK.out.few; omega) (HT.out.old O2.out) OK.out.row).mono ?_
 rintro e w3 ⟨av, rfl, a3, o3⟩
 have O3 := hide (Old.trans O2.out o3)
 have C3 := hide (Sl.old C2.out o3)
 have R3 := hide (Sl.old R2.out o3)
 have T3 := hide (Sl.old T2.out o3)
 have A3 := hide a3.sl
 clear a3 o3
 obtain ⟨j, hj⟩ : ∃ j, Hid (May t j ∧ ShowT t j.show 0 ∧ X = ⟨j.show.toArray⟩ ∧ parseV X.data.toList = .ok j ∧ t = j.flat) := by obtain ⟨j, hj⟩ := OK.out.says; exact ⟨j, hide hj⟩
 have CS := hide (show_run 5 tv t j.show 0 w3 T3.out OK.out.fine (HT.out.old O3.out) (HP.out.old O3.out) hj.out.2.1)
 unfold strE at CS
 rw [← hj.out.2.2.1] at CS
 go_wp2_with fail
 refine CS.out.mono ?_
 rintro e w4 ⟨rfl, o4⟩
 have O4 := hide (Old.trans O3.out o4)
 have C4 := hide (Sl.old C3.out o4)
 have R4 := hide (Sl.old R3.out o4)
 have A4 := hide (Sl.old A3.out o4)
 clear o4 CS
 have hX : X.size ≤ 1073741824 := Nat.le_trans OK.out.size (by omega)
 go_wp2_with fail
 refine (parse_okC X j w4 hX hj.out.2.2.2.1 (HE.out.old O4.out) (HT.out.old O4.out)).mono ?_
 rintro e w5 ⟨⟨uv, rfl, u5⟩, o5⟩
 have O5 := hide (Old.trans O4.out o5)
 have C5 := hide (Sl.old C4.out o5)
 have R5 := hide (Sl.old R4.out o5)
 have A5 := hide (Sl.old A4.out o5)
 have U5 := hide (show NodesIs w5 uv t by rw [hj.out.2.2.2.2]; exact u5.sl)
 clear u5 o5
 go_wp2_with fail
 refine (row_run cv uv cols t r 0 w5 C5.out U5.out OK.out.fine.texts (fit_fine OK.out.fine) OK.out.names (by have := OK.out.few; omega) (HT.out.old O5.out) OK.out.row).mono ?_
 rintro e w6 ⟨bv, rfl, b6, o6⟩
 have O6 := hide (Old.trans O5.out o6)
 have R6 := hide (Sl.old R5.out o6)
 have A6 := hide (Sl.old A5.out o6)
 have B6 := hide b6.sl
 clear b6 o6
 have E1 := hide (fun (w' : World) (o : Old w6 w') => eqRow av rv r r w' (Sl.old A6.out o) (Sl.old R6.out o))
 have E2 := hide (fun (w' : World) (o : Old w6 w') => eqRow bv rv r r w' (Sl.old B6.out o) (Sl.old R6.out o))
 rw [sameRow_self] at E1 E2
 clear hX
 go_wp2_with fail
 refine (E1.out _ (Old.refl _)).mono ?_
 rintro e w7 ⟨rfl, o7⟩
 have O7 := hide o7
 clear o7
 go_wp2_with fail
 refine (E2.out _ O7.out).mono ?_
 rintro e w8 ⟨rfl, o8⟩
 have O8 := hide (Old.trans O6.out (Old.trans O7.out o8))
 clear o8
 go_wp2_with fail
 go_ret
 exact ⟨rfl, O8.out⟩
end Go.Proofs.YthlfljmfggmfdaaGreatDoor

/-! ###  -/
namespace Go.Proofs.YthlfljmfggmfdaaGreatDoor
open Go.RowKit Go.ChangeShapes Go.WideShapes Go.Deep
theorem pow_eq : (Rows.laid_internal_strconv_uint64pow10 : DataW Unit) = Lib.tabData .u64 Lib.pow10Tab := by kernel_rfl
theorem tabIs_reads {P : Program} {W : World} {name : String} {k : IntKind} {zs : List Int} {g : Nat} {t e : TypeId} {n : Nat}
 (hg : P.globalNamed name = some g) (hty : (P.globals[g]?).map (·.type) = some t) (ht : P.underlying t = some (.array n e)) (he : P.underlying e = some (.int k)) (hce : P.cellsOf e = 1) (hct : P.cellsOf t = n)
 (h : Lib.VarReads P W name (Lib.tabData k zs)) : Lib.TabIs P W name k zs := by
 obtain ⟨g', t', cs, fuel, p, hg', ht', hvar, hd⟩ := h
 obtain rfl := Option.some.inj (hg.symm.trans hg')
 obtain rfl := Option.some.inj (hty.symm.trans ht')
 unfold Lib.TabIs
 rw [hvar, ← Lib.cells_of_tab ht he hce hct hd]
theorem seven_pow {W : World} (h : laidMetH Tryz.prog laidSeven W) : PowTab W := by
 rw [Go.MakeChecks.laidMetH_plain _ _ _ (by kernel_rfl)] at h
 have h2 := Lib.laidMet.reads h (.tail _ (.tail _ (.head _)))
 rw [pow_eq] at h2
 exact tabIs_reads (g := 2) (t := 242) (e := 196) (n := 20) (by kernel_rfl) (by kernel_rfl) (by kernel_rfl) Tryz.underlying196 (by kernel_rfl) (by kernel_rfl) h2
end Go.Proofs.YthlfljmfggmfdaaGreatDoor
