/- A list, and an object, of a few parts, and their texts: plain laws. -/
import Derived.Test.YtmolmphbhdbcaaaDoorSeeds
import Derived.Test.YtmolmphbhdbcaaaDoorQuoW
import Derived.Test.YtmolmphbhdbcaaaDoorWorks8
import Derived.Test.YtmolmphbhdbcaaaDoorOpenS
import Derived.Test.YtmolmphbhdbcaaaDoorShowW
/-! ### A list, and an object, of a few parts, and their texts: plain laws. -/
namespace Go.Proofs.YtmolmphbhdbcaaaDoor
open Go.RowKit

/-- a few parts that may be -/
structure KidsP (pl : List (List Nd)) (js : List J) (d z : Nat) : Prop where
  may : AllMay pl js
  tiny : ∀ p ∈ pl, Tiny p
  deeps : J.deeps js ≤ d
  size : (J.flats js).length ≤ z
theorem KidsP.nil (d : Nat) : KidsP [] [] d 0 := ⟨⟨rfl, fun i h => absurd h (by simp)⟩, by simp, by simp [J.deeps], by simp [J.flats]⟩
theorem KidsP.next {pl : List (List Nd)} {js : List J} {d z : Nat} (h : KidsP pl js d z) {t : List Nd} {j : J} (hm : May t j) (ht : Tiny t) (hd : j.deep ≤ d) {z' : Nat} (hz : z + t.length ≤ z') : KidsP (pl ++ [t]) (js ++ [j]) d z' where
  may := by
    refine ⟨by simp [h.may.1], fun k hk hk' => ?_⟩
    have hl := h.may.1
    rcases Nat.lt_or_ge k pl.length with hlt | hge
    · rw [List.getElem_append_left hlt, List.getElem_append_left (by omega)]
      exact h.may.2 k hlt (by omega)
    · rw [List.getElem_append_right hge, List.getElem_append_right (by omega)]
      simpa using hm
  tiny := by
    intro p hp
    rcases List.mem_append.1 hp with hp | hp
    · exact h.tiny p hp
    · simp at hp
      subst hp
      exact ht
  deeps := by
    have := h.deeps
    rw [deeps_append]
    simp only [J.deeps]
    omega
  size := by
    have := h.size
    have e := hm.1.2.2
    rw [flats_append, flats_one, List.length_append, ← e]
    omega
/-- the list, the object, of parts -/
def listP (js : List J) : J := .mk ⟨6, none_, 0, none_⟩ js
def objP (ks : List ByteArray) (js : List J) : J := .mk ⟨7, none_, 0, none_⟩ (rekeys ks js)
/-- keys that an object may have -/
structure KeysP (ks : List ByteArray) : Prop where
  valid : ∀ s ∈ ks, vU s = true
  nodup : ks.Nodup
  size : ∀ s ∈ ks, s.size ≤ 5
section
variable {pl : List (List Nd)} {js : List J} {ks : List ByteArray} {d z : Nat}
theorem KidsP.list_may (h : KidsP pl js d z) (hd : d < 64) (hz : z < 4000) : May (listP js).flat (listP js) := by
  have h1 := h.size
  have h3 := h.deeps
  refine ⟨⟨?_, rfl, rfl⟩, ?_, ?_⟩
  · unfold listP
    simp only [J.Ok]
    exact .inr (.inl ⟨by trivial, ⟨rfl, rfl⟩, allMay_oks h.may, allMay_keys h.may⟩)
  · rw [listP, flat_mk, List.length_cons]; omega
  · simp only [listP, J.deep]; omega
theorem KidsP.list (h : KidsP pl js d z) (hd : d < 64) (hz : z < 4000) : ListT pl (listP js).flat 0 :=
  .inr ⟨js, h.may, .inr (.inr ⟨by have := h.size; omega, by have := h.deeps; omega, rfl, rfl⟩)⟩
theorem KidsP.list_tiny (h : KidsP pl js d z) : Tiny (listP js).flat := texts_root (texts_flats (allMay_texts h.may h.tiny))
theorem KidsP.obj_may (h : KidsP pl js d z) (hd : d < 64) (hz : z < 4000) (hk : ks.length = pl.length) (hv : KeysP ks) : May (objP ks js).flat (objP ks js) := by
  have h1 := h.size
  have h3 := h.deeps
  have hkj : ks.length = js.length := hk.trans h.may.1
  have hdp := rekeys_deeps ks js hkj
  refine ⟨⟨?_, rfl, rfl⟩, ?_, ?_⟩
  · unfold objP
    simp only [J.Ok]
    refine .inr (.inr ⟨by trivial, ⟨rfl, rfl⟩, rekeys_oks (allMay_oks h.may), ?_⟩)
    rw [rekeys_keys hkj]
    exact keysOk_of hv.valid hv.nodup (by simp)
  · rw [objP, flat_mk, List.length_cons, rekeys_flats hkj]; omega
  · simp only [objP, J.deep]; omega
theorem KidsP.obj (h : KidsP pl js d z) (hd : d < 64) (hz : z < 4000) (hk : ks.length = pl.length) (hv : KeysP ks) : ObjT ks pl (objP ks js).flat 0 := by
  have hkj : ks.length = js.length := hk.trans h.may.1
  have hdp := rekeys_deeps ks js hkj
  refine .inr ⟨hk, .inr ⟨fun j hj => ?_, js, h.may, .inr (.inr ⟨by rw [rekeys_flats hkj]; have := h.size; omega, by have := h.deeps; omega, rfl, rfl⟩)⟩⟩
  have hjk : j < ks.length := by rw [hk]; exact hj
  rw [objErr_chk hjk hj (hv.valid _ (List.getElem_mem hjk)) (by
    rw [hasKey_not]
    intro hm
    obtain ⟨i, hi, e⟩ := List.mem_take_iff_getElem.1 hm
    have := (List.getElem_inj hv.nodup).1 e
    omega)]
  exact allMay_chk h.may j hj
theorem KidsP.obj_tiny (h : KidsP pl js d z) (hv : KeysP ks) : Tiny (objP ks js).flat := texts_root (texts_rekeys hv.size (allMay_texts h.may h.tiny))
theorem listP_len (js : List J) : (listP js).flat.length = (J.flats js).length + 1 := by rw [listP, flat_mk, List.length_cons]
theorem KidsP.obj_len (h : KidsP pl js d z) (hk : ks.length = pl.length) : (objP ks js).flat.length = (J.flats js).length + 1 := by
  rw [objP, flat_mk, List.length_cons, rekeys_flats (hk.trans h.may.1)]
end
/-- few nodes of small texts -/
theorem tiny_fineN {t : List Nd} (h : Tiny t) (hl : t.length ≤ 3000) : Fine 60 t where
  every := fun x hx => by have := h x hx; omega
  small := by omega
  room := by
    have h1 := Nat.mul_le_mul_right (12 * 60 + 32) hl
    have h2 := Nat.mul_le_mul hl h1
    omega
theorem tiny_room : ∀ {t : List Nd}, Tiny t → ndRoom t ≤ t.length * 100
  | [], _ => by simp [ndRoom]
  | x :: t, h => by
    have h1 := h x (by simp)
    have h2 := tiny_room (t := t) fun y hy => h y (by simp [hy])
    rw [ndRoom_cons, List.length_cons, Nat.add_mul]
    omega
theorem tiny_show {t : List Nd} {j : J} (h : Tiny t) (hm : May t j) (hl : t.length ≤ 3000) : j.show.length ≤ 300000 := by
  have e := hm.1.2.2
  have h1 := show_room.1 j (by rw [← e]; exact fun x hx => (h x hx).2.2)
  have h2 := tiny_room h
  rw [← e] at h1
  omega
theorem showT_of {t : List Nd} {j : J} (h : Tiny t) (hm : May t j) (hl : t.length ≤ 3000) : ShowT t j.show 0 :=
  .inr ⟨j, hm, .inl ⟨by have := tiny_show h hm hl; unfold maxText; omega, rfl, rfl⟩⟩

/-! ### the texts, as they grow -/
theorem rekey_show (k : ByteArray) (j : J) : (j.rekey k).show = j.show := by
  cases j with
  | mk h l => simp only [J.rekey, J.show]
theorem rekeys_snoc : ∀ {ks : List ByteArray} {js : List J} (k : ByteArray) (j : J), ks.length = js.length → rekeys (ks ++ [k]) (js ++ [j]) = rekeys ks js ++ [j.rekey k]
  | [], [], _, _, _ => rfl
  | a :: ks, b :: js, k, j, h => by
    simp only [List.cons_append, rekeys]
    rw [rekeys_snoc k j (by simpa using h)]
/-- what has been put together of parts: of a list, of an object -/
def listS (js : List J) : List UInt8 := 91 :: J.shows false true js
def objS (ks : List ByteArray) (js : List J) : List UInt8 := 123 :: J.shows true true (rekeys ks js)
theorem listS_end (js : List J) : (listP js).show = listS js ++ [93] := by
  simp [listP, J.show, listS]
theorem objS_end (ks : List ByteArray) (js : List J) : (objP ks js).show = objS ks js ++ [125] := by
  simp [objP, J.show, objS]
theorem listS_next (js : List J) (j : J) : listS (js ++ [j]) = listS js ++ ((if js.isEmpty then [] else [44]) ++ j.show) := by
  simp [listS, shows_snoc, partShow]
theorem rekeys_empty {ks : List ByteArray} {js : List J} (h : ks.length = js.length) : (rekeys ks js).isEmpty = js.isEmpty := by
  cases ks <;> cases js <;> simp_all [rekeys]
theorem objS_next {ks : List ByteArray} {js : List J} (k : ByteArray) (j : J) (h : ks.length = js.length) : objS (ks ++ [k]) (js ++ [j]) = objS ks js ++ ((if js.isEmpty then [] else [44]) ++ (quoteL k ++ [58] ++ j.show)) := by
  rw [objS, rekeys_snoc k j h, shows_snoc, rekeys_empty h]
  simp [objS, partShow, rekey_show, rekey_key]

/-! ### the keys that the statement has -/
def keys6 : List ByteArray := [⟨#[98]⟩, ⟨#[34]⟩, ⟨#[97]⟩, ⟨#[1]⟩, ⟨#[]⟩, ⟨#[195, 164]⟩]
theorem keys6_all : (keys6.all fun s => vU s && decide (s.size ≤ 5)) = true := by kernel_rfl
theorem keys6_ok : KeysP keys6 where
  valid s hs := by have := List.all_eq_true.1 keys6_all s hs; simp at this; exact this.1
  nodup := by decide
  size s hs := by have := List.all_eq_true.1 keys6_all s hs; simp at this; exact this.2
theorem KeysP.take {ks : List ByteArray} (h : KeysP ks) (k : Nat) : KeysP (ks.take k) where
  valid s hs := h.valid s (List.mem_of_mem_take hs)
  nodup := h.nodup.sublist (List.take_sublist _ _)
  size s hs := h.size s (List.mem_of_mem_take hs)
theorem keys6_len : keys6.length = 6 := rfl
theorem keys6_take {k : Nat} (h : k ≤ 6) : (keys6.take k).length = k := by simp [keys6_len]; omega
theorem keys6_next {i : Nat} (h : i < 6) : keys6.take (i + 1) = keys6.take i ++ [keys6[i]] := by
  rw [List.take_succ_eq_append_getElem h]
end Go.Proofs.YtmolmphbhdbcaaaDoor

/-! ### JshowParts: the walk. -/
namespace Go.Proofs.YtmolmphbhdbcaaaDoor
open Go.RowKit

/-- a seed's cell -/
theorem SeedsIs.at_ {w : World} {L : List (Value × List Int)} {A : Option Addr} {n c : Nat} (h : SeedsIs w (.slice A n c) L) {k : Nat} {p : Value × List Int} (hk : L[k]? = some p) : ∃ b off, A = some ⟨b, off, none⟩ ∧ w.cell? ⟨b, off + k, none⟩ = some p.1 ∧ NumsIs w p.1 p.2 := by
  obtain ⟨hkl, hks⟩ := List.getElem?_eq_some_iff.1 hk
  obtain ⟨⟨A2, cap, he, h1, h2, h3⟩, h4⟩ := h
  injection he with e1 e2 e3
  subst e1 e2 e3
  obtain ⟨b, off, rfl, hc⟩ := h3 (by intro e; simp at e; subst e; simp at hkl)
  exact ⟨b, off, rfl, hc k p.1 (by simp [hk]), h4 p (List.mem_of_getElem? hk)⟩
theorem SeedsIs.form {w : World} {v : Value} {L : List (Value × List Int)} (h : SeedsIs w v L) : ∃ A c, v = .slice A L.length c ∧ L.length ≤ c ∧ c ≤ maxLen := by
  obtain ⟨⟨A2, cap, he, h1, h2, h3⟩, h4⟩ := h
  exact ⟨A2, cap, he, h1, h2⟩
theorem text_form {base m : Nat} {w : World} {v : Value} {l : List ByteArray} (h : TextsOwn base w v l) (hm : l.length = m) : ∃ A cap, v = .slice A m cap ∧ m ≤ cap ∧ cap ≤ maxLen := by
  obtain ⟨A, cap, rfl, h1, h2, _⟩ := SlT.of_own h
  exact ⟨A, cap, by rw [hm], by omega, h2⟩
theorem part_form {base : Nat} {w : World} {v : Value} {ps : List (List Nd)} {m : Nat} (h : PartsOwn base w v ps) (hm : ps.length = m) : ∃ A cap, v = .slice A m cap ∧ m ≤ cap ∧ cap ≤ maxLen := by
  obtain ⟨vs, _, h2, _⟩ := h
  obtain ⟨A, cap, rfl, h1, h2, _⟩ := SlT.of_own h2
  exact ⟨A, cap, by rw [hm], by omega, h2⟩
/-- bytes as a text -/
def bT (l : List UInt8) : ByteArray := ⟨l.toArray⟩
theorem bT_size (l : List UInt8) : (bT l).size = l.length := by simp [bT, ByteArray.size]
theorem bT_append (a b : List UInt8) : bT a ++ bT b = bT (a ++ b) := by
  apply ByteArray.ext
  simp [bT]
/-- what a round makes of the two texts -/
theorem texts_next {L O X Q : ByteArray} {l o x q : List UInt8} (hL : L = bT l) (hO : O = bT o) (hX : X = bT x) (hQ : Q = bT q) :
    L ++ ⟨#[44]⟩ ++ X = bT (l ++ ([44] ++ x)) ∧ L ++ X = bT (l ++ ([] ++ x)) ∧ O ++ ⟨#[44]⟩ ++ Q ++ ⟨#[58]⟩ ++ X = bT (o ++ ([44] ++ (q ++ [58] ++ x))) ∧ O ++ Q ++ ⟨#[58]⟩ ++ X = bT (o ++ ([] ++ (q ++ [58] ++ x))) := by
  subst hL hO hX hQ
  have e44 : (⟨#[44]⟩ : ByteArray) = bT [44] := rfl
  have e58 : (⟨#[58]⟩ : ByteArray) = bT [58] := rfl
  rw [e44, e58]
  simp only [bT_append]
  refine ⟨?_, ?_, ?_, ?_⟩ <;> simp
theorem quoteL_small {s : ByteArray} (h : s.size ≤ 5) : (quoteL s).length ≤ 32 := by have := (quoteL_len s).2; omega

set_option maxRecDepth 100000 in
set_option maxHeartbeats 4000000 in
theorem jparts_walk (v : Value) (l : List (Value × List Int)) (w : World) (h : SeedsIs w v l) (hT : Tabs w) (hP : PowTab w) :
    Calls Tryd.prog 5 #[v] w fun e w' => e = .returned (.bool true) ∧ Old w w' := by
  have HT := hide hT
  have HP := hide hP
  have HS := hide h
  obtain ⟨A, c, rfl, hlc, hcm⟩ := h.form
  unfold maxLen at hcm
  obtain ⟨L, hL⟩ : ∃ L, Hid (l.length = L) := ⟨_, hide rfl⟩
  rw [hL.out] at HS hlc ⊢
  have CD := hide (fun (p : Value × List Int) w' (o : Old w w') (hp : NumsIs w p.1 p.2) => drawn_run p.1 p.2 w' (hp.old o) (HT.out.old o))
  clear h hT hP
  go_enter Tryd.func5, Tryd.ntmps5
  go_upto_block 0 with fail
  go_cut [3, 4, 5, 6] (fun pv kv lv ov wc => ∃ (A3 A4 : Option Addr) (c3 c4 m : Nat) (LS OS : ByteArray) (pl : List (List Nd)) (js : List J), pv = .slice A3 m c3 ∧ kv = .slice A4 m c4 ∧ lv = .string LS ∧ ov = .string OS ∧ m ≤ c3 ∧ c3 ≤ 2 ^ 63 - 1 ∧ m ≤ c4 ∧ c4 ≤ 2 ^ 63 - 1 ∧ m ≤ 6 ∧ Hid (pl.length = m) ∧ Hid (KidsP pl js 7 (301 * m)) ∧ Hid (LS = bT (listS js)) ∧ Hid (OS = bT (objS (keys6.take m) js)) ∧ Hid (PartsIs wc (.slice A3 m c3) pl) ∧ Hid (TextsIs wc (.slice A4 m c4) (keys6.take m)) ∧ Hid (Old w wc))
  case first =>
    go_wp2_with fail
    go_loopw [3, 4, 5, 6, 7] (fun pv kv lv ov i wr => ∃ (k : Nat) (LS OS : ByteArray) (pl : List (List Nd)) (js : List J), i = .int .i64 k ∧ lv = .string LS ∧ ov = .string OS ∧ k ≤ L ∧ k ≤ 6 ∧ LS.size ≤ 1 + 400000 * k ∧ OS.size ≤ 1 + 400000 * k ∧ Hid (pl.length = k) ∧ Hid (KidsP pl js 7 (301 * k)) ∧ Hid (LS = bT (listS js)) ∧ Hid (OS = bT (objS (keys6.take k) js)) ∧ Hid (PartsOwn w.heap.size wr pv pl) ∧ Hid (TextsOwn w.heap.size wr kv (keys6.take k)) ∧ Hid (Old w wr)) (fun _ _ _ _ i _ => L - (intOf i).toNat)
    case atStart => exact ⟨0, _, _, [], [], rfl, rfl, rfl, by omega, by omega, by decide, by decide, hide rfl, hide (KidsP.nil 7), hide rfl, hide rfl, hide (PartsOwn.nil_ _ _), hide (own_nil _ _ _ _), hide (Old.refl _)⟩
    case round =>
      obtain ⟨k, LS, OS, pl, js, rfl, rfl, rfl, hk, hk6, hls, hos, hpl, HK, HLS, HOS, HPO, HTO, HO⟩ := hrel
      have FIN := hide (show ∃ (A3 A4 : Option Addr) (c3 c4 m : Nat) (LS' OS' : ByteArray) (pl : List (List Nd)) (js : List J), u3 = .slice A3 m c3 ∧ u4 = .slice A4 m c4 ∧ Value.string LS = .string LS' ∧ Value.string OS = .string OS' ∧ m ≤ c3 ∧ c3 ≤ 2 ^ 63 - 1 ∧ m ≤ c4 ∧ c4 ≤ 2 ^ 63 - 1 ∧ m ≤ 6 ∧ Hid (pl.length = m) ∧ Hid (KidsP pl js 7 (301 * m)) ∧ Hid (LS' = bT (listS js)) ∧ Hid (OS' = bT (objS (keys6.take m) js)) ∧ Hid (PartsIs wr (.slice A3 m c3) pl) ∧ Hid (TextsIs wr (.slice A4 m c4) (keys6.take m)) ∧ Hid (Old w wr) from by
        obtain ⟨A3, c3, rfl, a1, a2⟩ := part_form HPO.out hpl.out
        obtain ⟨A4, c4, rfl, b1, b2⟩ := text_form HTO.out (keys6_take hk6)
        exact ⟨A3, A4, c3, c4, k, LS, OS, pl, js, rfl, rfl, rfl, rfl, a1, a2, b1, b2, hk6, hpl, HK, HLS, HOS, hide HPO.out.is, hide (TextsOwn.is HTO.out), HO⟩)
      by_cases hlt : k < L
      · by_cases h6 : k < 6
        · have hkl : k < l.length := by rw [hL.out]; exact hlt
          obtain ⟨b0, f0, rfl, z0, z1⟩ := SeedsIs.at_ HS.out (List.getElem?_eq_getElem hkl)
          obtain ⟨⟨u, N⟩, hu⟩ : ∃ p, Hid (l[k] = p) := ⟨_, hide rfl⟩
          rw [hu.out] at z0 z1
          have e0 := HO.out.cell z0
          have CDD := hide (CD.out (u, N) wr HO.out z1)
          have hl1 : pl.length + 1 ≤ 4194304 := by rw [hpl.out]; omega
          have hl2 : (keys6.take k).length + 1 ≤ 4194304 := by rw [keys6_take hk6]; omega
          have hpk := hide hpl.out
          have hjs := hide (show js.length = k by rw [← HK.out.may.1, hpl.out])
          obtain ⟨key, hkey⟩ : ∃ key, Hid (keys6[k] = key) := ⟨_, hide rfl⟩
          have hkin : keys6[k] ∈ keys6 := List.getElem_mem h6
          rw [hkey.out] at hkin
          have hksz := keys6_ok.size key hkin
          have hkv := hide (keys6_ok.valid key hkin)
          have KN := hide (keys6_next h6)
          rw [hkey.out] at KN
          obtain ⟨Q, hQ⟩ : ∃ Q : ByteArray, Hid (Q = bT (quoteL key)) := ⟨_, hide rfl⟩
          have hQs : Q.size ≤ 32 := by rw [hQ.out, bT_size]; exact quoteL_small hksz
          clear z0 z1 hkin
          go_wp2_with fail
          refine CDD.out.mono ?_
          rintro e w6 ⟨v6, t, j, rfl, n6, m6, x6, d6, l6, o6⟩
          obtain ⟨M, hM⟩ : ∃ M, Hid (t.length = M) := ⟨_, hide rfl⟩
          obtain ⟨A6, c6, rfl, q6, r6⟩ := nodes_form n6 hM.out
          unfold maxLen at r6
          have HK6 := hide (HK.out.next m6 x6 d6 (z' := 301 * (k + 1)) (by omega))
          have HPL := hide (show (pl ++ [t]).length = k + 1 by simp [hpk.out])
          have FT := hide (tiny_fineN x6 (by omega))
          have ST := hide (showT_of x6 m6 (by omega))
          have hxs := tiny_show x6 m6 (by omega)
          obtain ⟨X, hX⟩ : ∃ X : ByteArray, Hid (X = bT j.show) := ⟨_, hide rfl⟩
          have hXs : X.size ≤ 300000 := by rw [hX.out, bT_size]; exact hxs
          have N6 := hide n6
          have O6 := hide o6
          clear n6 m6 x6 d6 l6 o6 e0 CDD hxs
          go_wp2_with fail
          refine (show_run 60 _ t j.show 0 _ (SlT.sl N6.out) FT.out (HT.out.old (Old.trans HO.out O6.out)) (PowTab.old HP.out (Old.trans HO.out O6.out)) ST.out).mono ?_
          unfold strE
          rintro e w7 ⟨rfl, o7⟩
          have hXb := hX.out
          unfold bT at hXb
          rw [← hXb]
          have O7 := hide (Old.trans O6.out o7)
          have N7 := hide (SlT.old N6.out o7)
          clear o7 O6 N6 hXb
          go_upto_region 9 with fail
          go_cut [11] (fun kv wc => kv = .string key ∧ Hid (Old w7 wc))
          case first =>
            have h5 : k = 0 ∨ k = 1 ∨ k = 2 ∨ k = 3 ∨ k = 4 ∨ k = 5 := by omega
            have HKK := hide (show keys6[k]? = some key by rw [List.getElem?_eq_getElem h6, hkey.out])
            rcases h5 with rfl | rfl | rfl | rfl | rfl | rfl
            all_goals
              go_wp2_with fail
              go_meet
              exact ⟨congrArg Value.string (Option.some.inj HKK.out), hide (Old.alloc (Old.refl _) _)⟩
          case rest =>
            obtain ⟨rfl, O8⟩ := hcut
            have O78 := hide (Old.trans O7.out O8.out)
            have OW8 := hide (Old.trans HO.out O78.out)
            have N8 := hide (SlT.old N7.out O8.out)
            go_wp2_with fail
            refine (quote_ok key _ (by omega) hkv.out (HT.out.old OW8.out)).mono ?_
            rintro e w9 ⟨rfl, o9⟩
            have hQb := hQ.out
            unfold bT at hQb
            rw [← hQb]
            have O9 := hide (Old.trans O78.out o9)
            have OW9 := hide (Old.trans HO.out O9.out)
            have N9 := hide (SlT.old N8.out o9)
            clear o9 hQb
            have N6 := hide (SlT.mono (SlT.old N9.out (Old.alloc (Old.refl _) (.cells #[.slice A6 M c6] 22))) HO.out.size)
            have OA := hide (Old.trans O9.out (Old.alloc (Old.refl _) (.cells #[.slice A6 M c6] 22)))
            have HPO6 := hide (HPO.out.old OA.out)
            have OZA := hide (Old.trans HO.out OA.out)
            go_upto_region 14 with (at_builtin; refine wpList_plain rfl (fun K hK => ?_); refine step_push_part _ _ _ rfl w.heap.size _ pl rfl HPO6.out _ _ (.slice A6 M c6) t rfl (by go_simp) N6.out hl1 OZA.out.size ?_; intro v7 w7 own7 kept7; refine hK _ _ ?_; clear hK)
            have O10 := hide (kept7.old OZA.out (Nat.le_refl _))
            have P7 := hide own7
            have T7 := hide (Kept.own kept7 (own_old HTO.out OA.out) (by decide))
            clear own7 kept7
            go_upto_region 15 with (at_builtin; refine wpList_plain rfl (fun K hK => ?_); refine step_push_text _ _ _ rfl w.heap.size _ (keys6.take k) rfl (own_old T7.out (Old.alloc (Old.refl _) _)) _ _ key rfl (by go_simp) hl2 (O10.out.alloc _).size ?_; intro v8 w8 own8 kept8; refine hK _ _ ?_; clear hK)
            have O11 := hide (kept8.old (O10.out.alloc _) (Nat.le_refl _))
            have P8 := hide (PartsOwn.kept (P7.out.old (Old.alloc (Old.refl _) _)) kept8 (by decide) (by decide))
            have T8 := hide own8
            clear own8 kept8
            have TN := hide (texts_next HLS.out HOS.out hX.out hQ.out)
            have LN := hide (listS_next js j)
            have ON := hide (objS_next (ks := keys6.take k) key j (by rw [keys6_take hk6, hjs.out]))
            have hc1 : ¬ (9223372036854775807 : Int) < LS.size + X.size := by omega
            by_cases h0 : k = 0
            · have E0 := hide (show js.isEmpty = true by
                have := hjs.out
                rw [h0] at this
                rw [List.eq_nil_of_length_eq_zero this]; rfl)
              have h0' : ¬ (k : Int) > 0 := by omega
              go_wp2_with fail
              go_roundw
              case rel =>
                refine ⟨k + 1, _, _, pl ++ [t], js ++ [j], by go_num, rfl, rfl, by omega, by omega, ?_, ?_, HPL, HK6, hide ?_, hide ?_, P8, hide (by rw [KN.out]; exact T8.out), O11⟩
                · simp only [ByteArray.size_append]; omega
                · simp only [ByteArray.size_append, show (⟨#[58]⟩ : ByteArray).size = 1 from rfl]; omega
                · rw [LN.out, E0.out]; exact TN.out.2.1
                · rw [KN.out, ON.out, E0.out]; exact TN.out.2.2.2
              case measure => simp [intOf]; omega
            · have E0 := hide (show js.isEmpty = false by
                have := hjs.out
                cases js with
                | nil => simp at this; omega
                | cons => rfl)
              have h0' : (k : Int) > 0 := by omega
              go_wp2_with fail
              go_roundw
              case rel =>
                refine ⟨k + 1, _, _, pl ++ [t], js ++ [j], by go_num, rfl, rfl, by omega, by omega, ?_, ?_, HPL, HK6, hide ?_, hide ?_, P8, hide (by rw [KN.out]; exact T8.out), O11⟩
                · simp only [ByteArray.size_append, show (⟨#[44]⟩ : ByteArray).size = 1 from rfl]; omega
                · simp only [ByteArray.size_append, show (⟨#[44]⟩ : ByteArray).size = 1 from rfl, show (⟨#[58]⟩ : ByteArray).size = 1 from rfl]; omega
                · rw [LN.out, E0.out]; exact TN.out.1
                · rw [KN.out, ON.out, E0.out]; exact TN.out.2.2.1
              case measure => simp [intOf]; omega
        · have hk6' : ¬ (k : Int) < 6 := by omega
          go_wp2_with fail
          go_meet
          exact FIN.out
      · go_wp2_with fail
        go_meet
        exact FIN.out
  case rest =>
    obtain ⟨A3, A4, c3, c4, m, LS, OS, pl, js, rfl, rfl, rfl, rfl, a1, a2, b1, b2, hm6, hpl, HK, HLS, HOS, HP2, HKS, HO⟩ := hcut
    have KA := hide (keys6_ok.take m)
    have hkl : (keys6.take m).length = pl.length := by rw [hpl.out, keys6_take hm6]
    obtain ⟨ks, hks⟩ : ∃ ks, Hid (keys6.take m = ks) := ⟨_, hide rfl⟩
    rw [hks.out] at HKS KA hkl HOS
    have HZ4 := hide (show 301 * m < 4000 by omega)
    have LM := hide (HK.out.list_may (by omega) HZ4.out)
    have OM := hide (HK.out.obj_may (by omega) HZ4.out hkl KA.out)
    have LT := hide (HK.out.list (by omega) HZ4.out)
    have OT := hide (HK.out.obj (by omega) HZ4.out hkl KA.out)
    have LX := hide HK.out.list_tiny
    have OX := hide (HK.out.obj_tiny KA.out)
    have LL := show (listP js).flat.length ≤ 3000 by rw [listP_len]; have := HK.out.size; omega
    have OL := show (objP ks js).flat.length ≤ 3000 by rw [HK.out.obj_len hkl]; have := HK.out.size; omega
    have LF := hide (tiny_fineN LX.out LL)
    have OF := hide (tiny_fineN OX.out OL)
    have LS1 := hide (showT_of LX.out LM.out LL)
    have OS1 := hide (showT_of OX.out OM.out OL)
    have hls := tiny_show LX.out LM.out LL
    have hos := tiny_show OX.out OM.out OL
    have LE := hide (show LS ++ ⟨#[93]⟩ = ⟨(listP js).show.toArray⟩ by
      rw [listS_end, HLS.out, show (⟨#[93]⟩ : ByteArray) = bT [93] from rfl, bT_append]; rfl)
    have OE := hide (show OS ++ ⟨#[125]⟩ = ⟨(objP ks js).show.toArray⟩ by
      rw [objS_end, HOS.out, show (⟨#[125]⟩ : ByteArray) = bT [125] from rfl, bT_append]; rfl)
    have hl1 : LS.size ≤ 300000 := by
      have e := congrArg List.length (listS_end js)
      rw [List.length_append] at e
      rw [HLS.out, bT_size]
      omega
    have hl2 : OS.size ≤ 300000 := by
      have e := congrArg List.length (objS_end ks js)
      rw [List.length_append] at e
      rw [HOS.out, bT_size]
      omega
    obtain ⟨U, hU⟩ : ∃ U, Hid ((listP js).flat = U) := ⟨_, hide rfl⟩
    obtain ⟨O, hO⟩ : ∃ U, Hid ((objP ks js).flat = U) := ⟨_, hide rfl⟩
    rw [hU.out] at LT LF LS1
    rw [hO.out] at OT OF OS1
    have HX := hide (show ∀ p ∈ pl, TextsOk p from fun p hp => (HK.out.tiny p hp).texts)
    have HSZ := hide (show ∀ s ∈ ks, s.size ≤ maxLen from fun s hs => by have := KA.out.size s hs; unfold maxLen; omega)
    clear hkl LL OL hls hos
    go_wp2_with fail
    refine (list_run _ pl U 0 _ HP2.out HX.out (HT.out.old HO.out) LT.out).mono ?_
    rintro e w2 ⟨v2, rfl, n2, o2⟩
    obtain ⟨A5, c5, rfl, q5, r5⟩ := nodes_form n2 rfl
    unfold maxLen at r5
    have O2 := hide (Old.trans HO.out o2)
    have O2' := hide o2
    have N2 := hide (SlT.sl n2)
    clear n2 o2
    go_wp2_with fail
    refine (obj_run _ _ ks pl O 0 _ (HKS.out.old O2'.out) HSZ.out (HP2.out.old O2'.out) HX.out (HT.out.old O2.out) OT.out).mono ?_
    rintro e w3 ⟨v3, rfl, n3, o3⟩
    obtain ⟨A6, c6, rfl, q6, r6⟩ := nodes_form n3 rfl
    unfold maxLen at r6
    have O3 := hide (Old.trans O2.out o3)
    have M2 := hide (N2.out.old o3)
    have N3 := hide (SlT.sl n3)
    clear n3 o3 N2
    have C1 := hide (fun w' (o : Old w3 w') => shows_run _ U _ w' (M2.out.old o) LF.out (HT.out.old (Old.trans O3.out o)) (PowTab.old HP.out (Old.trans O3.out o)) LS1.out)
    have C2 := hide (fun w' (o : Old w3 w') => shows_run _ O _ w' (N3.out.old o) OF.out (HT.out.old (Old.trans O3.out o)) (PowTab.old HP.out (Old.trans O3.out o)) OS1.out)
    rw [← LE.out] at C1
    rw [← OE.out] at C2
    go_wp2_with fail
    refine (C1.out _ (Old.refl _)).mono ?_
    rintro e w4 ⟨rfl, o4⟩
    have O4 := hide o4
    clear o4
    go_wp2_with fail
    refine (C2.out _ O4.out).mono ?_
    rintro e w5 ⟨rfl, o5⟩
    have O5 := hide (Old.trans O3.out (Old.trans O4.out o5))
    clear o5
    go_wp2_with fail
    refine (works_run _ (HT.out.old O5.out) (PowTab.old HP.out O5.out)).mono ?_
    rintro e w6 ⟨rfl, o6⟩
    have O6 := hide (Old.trans O5.out o6)
    clear o6
    go_wp2_with fail
    go_ret
    exact ⟨by first | rfl | simp, O6.out⟩
end Go.Proofs.YtmolmphbhdbcaaaDoor
