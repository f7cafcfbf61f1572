/-  -/
import Derived.Test.YthlfljmfggmfdaaGreatDoorQf36
import Derived.Test.YthlfljmfggmfdaaGreatDoorQf33
import Derived.Test.YthlfljmfggmfdaaGreatDoorQf14
import Derived.Lib.ItoaLen
import Derived.Test.YthlfljmfggmfdaaGreatDoorQf12
/-! ###  -/
namespace Go.Proofs.YthlfljmfggmfdaaGreatDoor
theorem skip_all {r t : List UInt8} (h : skipB r = []) : skipB (r ++ t) = skipB t := by
 induction r with
 | nil => rfl
 | cons c r ih =>
   simp only [skipB, List.cons_append] at h ⊢
   split
   · rename_i hb
     rw [if_pos hb] at h
     exact ih h
   · rename_i hb
     rw [if_neg hb] at h
     cases h
theorem parse_in {l t : List UInt8} {j : J} {n d g : Nat} (h : parseV l = .ok j) (ht : Free t) (hn : n + j.flat.length ≤ 4000) (hd : d + j.deep ≤ 64) :
 ∃ r, skipB r = [] ∧ skipB l ≠ [] ∧ pv (fuelOf l + g) n d (skipB l ++ t) = .ok (j, r ++ t) := by
 unfold parseV at h
 split at h
 · cases h
 split at h
 · cases h
 rename_i j' r hp
 split at h
 · rename_i hr
   injection h with h
   subst h
   refine ⟨r, hr, ?_, (loc_both _).1 g _ _ n d _ _ t _ hp ht hn hd⟩
   intro e
   rw [e] at hp
   unfold fuelOf at hp
   simp only [pv] at hp
   cases hp
 · cases h
def joinL (e : List UInt8) : List (List UInt8) → List UInt8
 | [] => e
 | [l] => l ++ e
 | l :: m :: ls => l ++ 44 :: joinL e (m :: ls)
theorem pp_join (t0 : List UInt8) : ∀ (ps : List (List UInt8 × J)), ps ≠ [] → (∀ p ∈ ps, parseV p.1 = .ok p.2) → ∀ f n d : Nat, 2 * (joinL [93] (ps.map (·.1))).length + 1 ≤ f → n + (J.flats (ps.map (·.2))).length ≤ 4000 → d + J.deeps (ps.map (·.2)) ≤ 64 →
 pp f false n d [] (joinL (93 :: t0) (ps.map (·.1))) = .ok (ps.map fun p => p.2.rekey none_, t0)
 | [], h, _, _, _, _, _, _, _ => absurd rfl h
 | [p], _, hp, f, n, d, hf, hn, hd => by
   simp only [List.map_cons, List.map_nil, joinL] at hf ⊢
   simp only [List.map_cons, List.map_nil, flats_one] at hn
   simp only [List.map_cons, List.map_nil, J.deeps] at hd
   simp only [List.length_append, List.length_cons, List.length_nil] at hf
   obtain ⟨f, rfl⟩ : ∃ k, f = k + 1 := ⟨f - 1, by omega⟩
   obtain ⟨r, h1, h2, h3⟩ := parse_in (t := 93 :: t0) (n := n) (d := d) (g := f - fuelOf p.1) (hp p (List.mem_cons_self ..)) ⟨by decide, by decide, by decide, by decide⟩ hn (by omega)
   rw [show fuelOf p.1 + (f - fuelOf p.1) = f by unfold fuelOf; omega] at h3
   simp only [pp, keyV]
   rw [if_pos trivial]
   simp only
   rw [skip_loc h2, h3]
   simp only
   have hm : moreV false (r ++ 93 :: t0) = .ok (false, t0) := by
    unfold moreV
    rw [skip_all h1]
    rfl
   rw [hm]
 | p :: q :: ps, _, hp, f, n, d, hf, hn, hd => by
   have ih := pp_join t0 (q :: ps) (by simp) (fun x hx => hp x (List.mem_cons_of_mem _ hx))
   simp only [List.map_cons, joinL] at hf ih ⊢
   simp only [List.map_cons, flats_cons, List.length_append] at hn ih
   simp only [List.map_cons, J.deeps] at hd ih
   simp only [List.length_append, List.length_cons] at hf
   obtain ⟨f, rfl⟩ : ∃ k, f = k + 1 := ⟨f - 1, by omega⟩
   obtain ⟨r, h1, h2, h3⟩ := parse_in (t := 44 :: joinL (93 :: t0) (q.1 :: ps.map (·.1))) (n := n) (d := d) (g := f - fuelOf p.1) (hp p (List.mem_cons_self ..)) ⟨by decide, by decide, by decide, by decide⟩ (by omega) (by omega)
   rw [show fuelOf p.1 + (f - fuelOf p.1) = f by unfold fuelOf; omega] at h3
   simp only [pp, keyV]
   rw [if_pos trivial]
   simp only
   rw [skip_loc h2, h3]
   simp only
   have hm : moreV false (r ++ 44 :: joinL (93 :: t0) (q.1 :: ps.map (·.1))) = .ok (true, joinL (93 :: t0) (q.1 :: ps.map (·.1))) := by
    unfold moreV
    rw [skip_all h1]
    rfl
   rw [hm]
   simp only [hadOf, Bool.false_eq_true, if_false]
   rw [ih f (n + p.2.flat.length) d (by omega) (by omega) (by omega)]
def KeyText (kt k : List UInt8) : Prop := ∀ (had : List ByteArray) (r : List UInt8), bT k ∉ had → keyV true had (kt ++ r) = .ok (bT k, r)
theorem bT_inj {a b : List UInt8} (h : bT a = bT b) : a = b := by
 have h1 := congrArg (fun x : ByteArray => x.data.toList) h
 simpa [bT] using h1
structure Mem where
 kt : List UInt8
 k : List UInt8
 l : List UInt8
 j : J
def Mem.key (p : Mem) : ByteArray := bT p.k
def Mem.piece (p : Mem) : List UInt8 := p.kt ++ p.l
structure Mem.Ok (p : Mem) : Prop where
 val : parseV p.l = .ok p.j
 key : KeyText p.kt p.k
theorem KeyText.ne {kt k : List UInt8} (h : KeyText kt k) (r : List UInt8) : ∃ x, skipB (kt ++ r) = 34 :: x := by
 have h1 := h [] r (by simp)
 unfold keyV at h1
 rw [if_neg (by decide)] at h1
 cases hs : skipB (kt ++ r) with
 | nil => rw [hs] at h1; cases h1
 | cons c x =>
   rw [hs] at h1
   unfold litV at h1
   simp only at h1
   by_cases hc : c = 34
   · exact ⟨x, by rw [hc]⟩
   · rw [if_pos hc] at h1; cases h1
theorem pp_joinM (t0 : List UInt8) : ∀ (ps : List Mem) (had : List ByteArray), ps ≠ [] → (∀ p ∈ ps, p.Ok ∧ p.key ∉ had) → (ps.map Mem.k).Nodup → ∀ f n d : Nat, 2 * (joinL [125] (ps.map Mem.piece)).length + 1 ≤ f → n + (J.flats (ps.map Mem.j)).length ≤ 4000 → d + J.deeps (ps.map Mem.j) ≤ 64 →
 pp f true n d had (joinL (125 :: t0) (ps.map Mem.piece)) = .ok (ps.map fun p => p.j.rekey p.key, t0)
 | [], _, h, _, _, _, _, _, _, _, _ => absurd rfl h
 | [p], had, _, hp, _, f, n, d, hf, hn, hd => by
   simp only [List.map_cons, List.map_nil, joinL] at hf ⊢
   simp only [List.map_cons, List.map_nil, flats_one] at hn
   simp only [List.map_cons, List.map_nil, J.deeps] at hd
   simp only [List.length_append, List.length_cons, List.length_nil, Mem.piece] at hf
   obtain ⟨f, rfl⟩ : ∃ k, f = k + 1 := ⟨f - 1, by omega⟩
   obtain ⟨⟨q1, q2⟩, q3⟩ := hp p (List.mem_cons_self ..)
   obtain ⟨r, h1, h2, h3⟩ := parse_in (t := 125 :: t0) (n := n) (d := d) (g := f - fuelOf p.l) q1 ⟨by decide, by decide, by decide, by decide⟩ hn (by omega)
   rw [show fuelOf p.l + (f - fuelOf p.l) = f by unfold fuelOf; omega] at h3
   simp only [pp]
   rw [show Mem.piece p ++ 125 :: t0 = p.kt ++ (p.l ++ 125 :: t0) by unfold Mem.piece; rw [List.append_assoc], q2 had _ q3]
   simp only
   rw [skip_loc h2, h3]
   simp only
   have hm : moreV true (r ++ 125 :: t0) = .ok (false, t0) := by
    unfold moreV
    rw [skip_all h1]
    rfl
   rw [hm]
   rfl
 | p :: q :: ps, had, _, hp, hnd, f, n, d, hf, hn, hd => by
   obtain ⟨⟨q1, q2⟩, q3⟩ := hp p (List.mem_cons_self ..)
   have hnd2 := (List.nodup_cons.1 hnd)
   have ih := pp_joinM t0 (q :: ps) (had ++ [p.key]) (by simp) (fun x hx => ⟨(hp x (List.mem_cons_of_mem _ hx)).1, fun hm => by
    rcases List.mem_append.1 hm with hm | hm
    · exact (hp x (List.mem_cons_of_mem _ hx)).2 hm
    · have e := bT_inj (List.mem_singleton.1 hm)
      exact hnd2.1 (by rw [← e]; exact List.mem_map.2 ⟨x, hx, rfl⟩)⟩) hnd2.2
   simp only [List.map_cons, joinL] at hf ih ⊢
   simp only [List.map_cons, flats_cons, List.length_append] at hn ih
   simp only [List.map_cons, J.deeps] at hd ih
   simp only [List.length_append, List.length_cons] at hf
   have hpl : (Mem.piece p).length = p.kt.length + p.l.length := List.length_append
   rw [hpl] at hf
   obtain ⟨f, rfl⟩ : ∃ k, f = k + 1 := ⟨f - 1, by omega⟩
   obtain ⟨r, h1, h2, h3⟩ := parse_in (t := 44 :: joinL (125 :: t0) (Mem.piece q :: ps.map Mem.piece)) (n := n) (d := d) (g := f - fuelOf p.l) q1 ⟨by decide, by decide, by decide, by decide⟩ (by omega) (by omega)
   rw [show fuelOf p.l + (f - fuelOf p.l) = f by unfold fuelOf; omega] at h3
   simp only [pp]
   rw [show Mem.piece p ++ 44 :: joinL (125 :: t0) (Mem.piece q :: ps.map Mem.piece) = p.kt ++ (p.l ++ 44 :: joinL (125 :: t0) (Mem.piece q :: ps.map Mem.piece)) by rw [show Mem.piece p = p.kt ++ p.l from rfl, List.append_assoc], q2 had _ q3]
   simp only
   rw [skip_loc h2, h3]
   simp only
   have hm : moreV true (r ++ 44 :: joinL (125 :: t0) (Mem.piece q :: ps.map Mem.piece)) = .ok (true, joinL (125 :: t0) (Mem.piece q :: ps.map Mem.piece)) := by
    unfold moreV
    rw [skip_all h1]
    rfl
   rw [hm]
   simp only [hadOf, if_true]
   rw [show had ++ [bT p.k] = had ++ [p.key] from rfl, ih f (n + p.j.flat.length) d (by omega) (by omega) (by omega)]
   rfl
theorem pp_skip (f : Nat) (obj : Bool) (n d : Nat) (had : List ByteArray) (l : List UInt8) : pp (f + 1) obj n d had (skipB l) = pp (f + 1) obj n d had l := by
 cases obj with
 | false => simp only [pp, keyV, if_true, skipB_skip]
 | true =>
   have h : keyV true had (skipB l) = keyV true had l := by
    unfold keyV
    rw [if_neg (by decide), if_neg (by decide), skipB_skip]
   rw [pp, pp, h]
theorem begins {l : List UInt8} {j : J} (h : parseV l = .ok j) : ∃ c r, skipB l = c :: r ∧ begB c = true := by
 unfold parseV at h
 split at h
 · cases h
 split at h
 · cases h
 rename_i hp
 unfold fuelOf at hp
 cases hs : skipB l with
 | nil => rw [hs] at hp; simp only [pv] at hp; cases hp
 | cons c r =>
   refine ⟨c, r, rfl, ?_⟩
   rw [hs] at hp
   simp only [pv] at hp
   split at hp
   · cases hp
   rename_i hb
   simpa using hb
theorem join_skip {e : List UInt8} {l : List UInt8} {ls : List (List UInt8)} (h : skipB l ≠ []) : ∃ t, skipB (joinL e (l :: ls)) = skipB l ++ t := by
 cases ls with
 | nil => exact ⟨e, by rw [joinL, skip_loc h]⟩
 | cons m ls => exact ⟨_, by rw [joinL, skip_loc h]⟩
theorem pv_list (t0 : List UInt8) (ps : List (List UInt8 × J)) (hp : ∀ p ∈ ps, parseV p.1 = .ok p.2) (f n d : Nat) (hf : 2 * (joinL [93] (ps.map (·.1))).length + 2 ≤ f) (hn : n + 1 + (J.flats (ps.map (·.2))).length ≤ 4000) (hd : d + 1 + J.deeps (ps.map (·.2)) ≤ 64) :
 pv f n d (91 :: joinL (93 :: t0) (ps.map (·.1))) = .ok (.mk ⟨6, none_, 0, none_⟩ (ps.map fun p => p.2.rekey none_), t0) := by
 obtain ⟨f, rfl⟩ : ∃ k, f = k + 1 + 1 := ⟨f - 2, by omega⟩
 rw [pv]
 rw [if_neg (by decide), if_neg (by omega), if_neg (by omega), if_pos (.inl rfl), show ((91 : UInt8) == 123) = false from by decide]
 cases ps with
 | nil => rfl
 | cons p ps =>
   obtain ⟨c, r, h1, h2⟩ := begins (hp p (List.mem_cons_self ..))
   obtain ⟨t, h3⟩ := join_skip (e := 93 :: t0) (ls := ps.map (·.1)) (show skipB p.1 ≠ [] by rw [h1]; simp)
   have hc : c ≠ 93 := by rintro rfl; exact absurd h2 (by decide)
   have he : endV false (joinL (93 :: t0) ((p :: ps).map (·.1))) = (false, skipB (joinL (93 :: t0) ((p :: ps).map (·.1)))) := by
    unfold endV
    simp only [List.map_cons]
    rw [h3, h1]
    have hc2 : c ≠ lastOf false := hc
    simp only [List.cons_append, opt1]
    exact if_neg hc2
   rw [he]
   simp only
   rw [pp_skip, pp_join t0 (p :: ps) (by simp) hp _ (n + 1) (d + 1) (by omega) hn hd]
   rfl
theorem pv_obj (t0 : List UInt8) (ps : List Mem) (hp : ∀ p ∈ ps, p.Ok) (hk : (ps.map Mem.k).Nodup) (f n d : Nat) (hf : 2 * (joinL [125] (ps.map Mem.piece)).length + 2 ≤ f) (hn : n + 1 + (J.flats (ps.map Mem.j)).length ≤ 4000) (hd : d + 1 + J.deeps (ps.map Mem.j) ≤ 64) :
 pv f n d (123 :: joinL (125 :: t0) (ps.map Mem.piece)) = .ok (.mk ⟨7, none_, 0, none_⟩ (ps.map fun p => p.j.rekey p.key), t0) := by
 obtain ⟨f, rfl⟩ : ∃ k, f = k + 1 + 1 := ⟨f - 2, by omega⟩
 rw [pv]
 rw [if_neg (by decide), if_neg (by omega), if_neg (by omega), if_pos (.inr rfl), show ((123 : UInt8) == 123) = true from by decide]
 cases ps with
 | nil => rfl
 | cons p ps =>
   have he : endV true (joinL (125 :: t0) ((p :: ps).map Mem.piece)) = (false, skipB (joinL (125 :: t0) ((p :: ps).map Mem.piece))) := by
    obtain ⟨t, ht⟩ : ∃ t, joinL (125 :: t0) ((p :: ps).map Mem.piece) = p.kt ++ t := by
     cases ps with
     | nil => exact ⟨p.l ++ 125 :: t0, by simp [joinL, Mem.piece]⟩
     | cons q ps => exact ⟨p.l ++ 44 :: joinL (125 :: t0) ((q :: ps).map Mem.piece), by simp [joinL, Mem.piece]⟩
    obtain ⟨x, hx⟩ := (hp p (List.mem_cons_self ..)).key.ne t
    unfold endV
    rw [ht, hx]
    rfl
   rw [he]
   simp only
   rw [pp_skip, pp_joinM t0 (p :: ps) [] (by simp) (fun x hx => ⟨hp x hx, by simp⟩) hk _ (n + 1) (d + 1) (by omega) hn hd]
   rfl
theorem parse_of_pv {l : List UInt8} {j : J} (h : l.length ≤ 1048576) (hs : skipB l = l) (hp : pv (fuelOf l) 0 0 l = .ok (j, [])) : parseV l = .ok j := by
 unfold parseV
 rw [if_neg (by omega), hs, hp]
 rfl
theorem parse_list (ps : List (List UInt8 × J)) (hp : ∀ p ∈ ps, parseV p.1 = .ok p.2) (hl : (joinL [93] (ps.map (·.1))).length ≤ 1048575) (hn : 1 + (J.flats (ps.map (·.2))).length ≤ 4000) (hd : 1 + J.deeps (ps.map (·.2)) ≤ 64) :
 parseV (91 :: joinL [93] (ps.map (·.1))) = .ok (.mk ⟨6, none_, 0, none_⟩ (ps.map fun p => p.2.rekey none_)) :=
 parse_of_pv (by simp only [List.length_cons]; omega) rfl (pv_list [] ps hp _ 0 0 (by unfold fuelOf; simp only [List.length_cons]; omega) (by omega) (by omega))
theorem parse_obj (ps : List Mem) (hp : ∀ p ∈ ps, p.Ok) (hk : (ps.map Mem.k).Nodup) (hl : (joinL [125] (ps.map Mem.piece)).length ≤ 1048575) (hn : 1 + (J.flats (ps.map Mem.j)).length ≤ 4000) (hd : 1 + J.deeps (ps.map Mem.j) ≤ 64) :
 parseV (123 :: joinL [125] (ps.map Mem.piece)) = .ok (.mk ⟨7, none_, 0, none_⟩ (ps.map fun p => p.j.rekey p.key)) :=
 parse_of_pv (by simp only [List.length_cons]; omega) rfl (pv_obj [] ps hp hk _ 0 0 (by unfold fuelOf; simp only [List.length_cons]; omega) (by omega) (by omega))
def accL (c : UInt8) : List (List UInt8) → List UInt8
 | [] => [c]
 | l :: ls => c :: l ++ (ls.flatMap fun m => 44 :: m)
theorem accL_snoc (c : UInt8) (ls : List (List UInt8)) (m : List UInt8) : accL c (ls ++ [m]) = (if ls = [] then accL c ls else accL c ls ++ [44]) ++ m := by
 cases ls with
 | nil => simp [accL]
 | cons l ls =>
   rw [if_neg (by simp)]
   simp [accL, List.flatMap_append]
end Go.Proofs.YthlfljmfggmfdaaGreatDoor
namespace Go.Proofs.YthlfljmfggmfdaaGreatDoor
def jsM (ps : List Mem) : List J := ps.map Mem.j
structure Mem.Few (p : Mem) : Prop where
 ok : p.Ok
 len : p.l.length ≤ 100
 plen : p.piece.length ≤ 104
 key : vU p.key = true
end Go.Proofs.YthlfljmfggmfdaaGreatDoor
namespace Go.Proofs.YthlfljmfggmfdaaGreatDoor
open Go.Lib (decDigits itoa)
section
variable {n : Int} {d : List UInt8}
end
end Go.Proofs.YthlfljmfggmfdaaGreatDoor
namespace Go.Proofs.YthlfljmfggmfdaaGreatDoor
open Go.Lib (decDigits itoa)
def Cut {α : Type} (p : List UInt8) (x : Except Bad α) : Prop := x = .error ([], 70) ∨ ∃ q r, p = q ++ 34 :: r ∧ x = .error (34 :: r, 3)
theorem Cut.pre {α : Type} {p : List UInt8} {x : Except Bad α} (q : List UInt8) (h : Cut p x) : Cut (q ++ p) x := by
 rcases h with h | ⟨u, r, h1, h2⟩
 · exact .inl h
 · exact .inr ⟨q ++ u, r, by rw [h1, List.append_assoc], h2⟩
theorem app_cut {a b x y : List UInt8} (h : a ++ b = x ++ y) : (∃ c, c ≠ [] ∧ a = x ++ c) ∨ ∃ x', x = a ++ x' ∧ b = x' ++ y := by
 rcases List.append_eq_append_iff.1 h with ⟨u, h1, h2⟩ | ⟨u, h1, h2⟩
 · exact .inr ⟨u, h1, h2⟩
 · by_cases hu : u = []
   · subst hu
     exact .inr ⟨[], by simpa using h1.symm, by simpa using h2.symm⟩
   · exact .inl ⟨u, hu, h1⟩
def Blanks (b : List UInt8) : Prop := ∀ c ∈ b, isBlank c = true
theorem Blanks.skip {b : List UInt8} (h : Blanks b) (l : List UInt8) : skipB (b ++ l) = skipB l := by
 induction b with
 | nil => rfl
 | cons c b ih =>
   simp only [List.cons_append, skipB]
   rw [if_pos (h c (List.mem_cons_self ..)), ih fun x hx => h x (List.mem_cons_of_mem _ hx)]
theorem Blanks.none {b : List UInt8} (h : Blanks b) : skipB b = [] := by
 have := h.skip []
 rwa [List.append_nil] at this
theorem Blanks.pre {b x c : List UInt8} (h : Blanks b) (e : b = x ++ c) : Blanks x := fun y hy => h y (by rw [e]; exact List.mem_append_left _ hy)
theorem Blanks.free {b : List UInt8} (h : Blanks b) {t : List UInt8} (ht : Free t) : Free (b ++ t) := by
 cases b with
 | nil => exact ht
 | cons c b =>
   have h1 := h c (List.mem_cons_self ..)
   unfold isBlank at h1
   simp only [Bool.or_eq_true, beq_iff_eq] at h1
   unfold Free
   simp only [List.cons_append]
   rcases h1 with ((rfl | rfl) | rfl) | rfl <;> decide
theorem Free.nil_ : Free [] := by unfold Free; trivial
theorem pv_nil (f n d : Nat) : pv (f + 1) n d [] = .error ([], 70) := by simp only [pv]
structure Txt (l : List UInt8) (j : J) : Prop where
 val : parseV l = .ok j
 skip : skipB l = l
 cut : ∀ p q, l = p ++ q → q ≠ [] → ∀ f n d, 2 * p.length + 2 ≤ f → n + j.flat.length ≤ 4000 → d + j.deep ≤ 64 → Cut p (pv f n d p) ∨ (j.hd.kind = 4 ∧ ∃ j', pv f n d p = .ok (j', []))
 any : j.hd.kind ≠ 4 → ∀ t f n d, fuelOf l ≤ f → n + j.flat.length ≤ 4000 → d + j.deep ≤ 64 → pv f n d (l ++ t) = .ok (j, t)
theorem Txt.ne {l : List UInt8} {j : J} (h : Txt l j) : l ≠ [] := by
 rintro rfl
 have := h.val
 cases this
structure KeyTxt (kt k : List UInt8) : Prop where
 key : KeyText kt k
 cut : ∀ p q, kt = p ++ q → q ≠ [] → ∀ had, bT k ∉ had → Cut p (keyV true had p) ∨ ∃ b, Blanks b ∧ keyV true had p = .ok (bT k, b)
structure Mid (l : List UInt8) (j : J) : Prop where
 mid : ∃ b v b', l = b ++ (v ++ b') ∧ Blanks b ∧ Blanks b' ∧ Txt v j
theorem parse_mid {l : List UInt8} {j : J} (h : Mid l j) (hl : l.length ≤ 1048576) : parseV l = .ok j := by
 obtain ⟨b, v, b', rfl, hb, hb', hv⟩ := h
 obtain ⟨m1, m2, m3⟩ := parseV_may hv.val
 simp only [List.length_append] at hl
 obtain ⟨r, h1, h2, h3⟩ := parse_in (t := b') (n := 0) (d := 0) (g := 2 * b.length + 2 * b'.length) hv.val (by have := hb'.free Free.nil_; rwa [List.append_nil] at this) (by omega) (by omega)
 unfold parseV
 rw [if_neg (by simp only [List.length_append]; omega), hb.skip, skip_loc h2, show fuelOf (b ++ (v ++ b')) = fuelOf v + (2 * b.length + 2 * b'.length) by unfold fuelOf; simp only [List.length_append]; omega, h3]
 simp only
 rw [skip_all h1, hb'.none]
structure MemT (obj : Bool) (p : Mem) : Prop where
 mid : Mid p.l p.j
 len : p.l.length ≤ 1048576
 key : obj = true → KeyTxt p.kt p.k
 nokey : obj = false → p.kt = []
theorem MemT.ok {p : Mem} (h : MemT true p) : p.Ok := ⟨parse_mid h.mid h.len, (h.key rfl).key⟩
theorem txt_may {l : List UInt8} {j : J} (h : parseV l = .ok j) : j.flat.length ≤ 4000 ∧ j.deep ≤ 64 := (parseV_may h).2
end Go.Proofs.YthlfljmfggmfdaaGreatDoor
namespace Go.Proofs.YthlfljmfggmfdaaGreatDoor
open Go.Lib (decDigits itoa)
theorem pv_leaf {f n d : Nat} {c : UInt8} {r : List UInt8} (hb : begB c = true) (h1 : c ≠ 91) (h2 : c ≠ 123) (hn : n < 4000) (hd : d < 64) : pv (f + 1) n d (c :: r) = leafV c (c :: r) := by
 rw [pv]
 rw [if_neg (by rw [hb]; decide), if_neg (by omega), if_neg (by omega), if_neg (by rintro (h | h); exact h1 h; exact h2 h)]
theorem one_len (k n : Int) (s : ByteArray) : (oneJ k n s).flat.length = 1 := by simp [oneJ, J.flat, J.flats]
theorem one_deep (k n : Int) (s : ByteArray) : (oneJ k n s).deep = 1 := by simp [oneJ, J.deep, J.deeps]
theorem leaf_txt {c : UInt8} {r : List UInt8} {k n : Int} {s : ByteArray} (hb : begB c = true) (h1 : c ≠ 91) (h2 : c ≠ 123) (hs : isBlank c = false) (hl : r.length ≤ 1000) (h : leafV c (c :: r) = .ok (oneJ k n s, []))
 (hany : k ≠ 4 → ∀ t, leafV c (c :: (r ++ t)) = .ok (oneJ k n s, t)) (hcut : ∀ p q, r = p ++ q → q ≠ [] → Cut (c :: p) (leafV c (c :: p)) ∨ (k = 4 ∧ ∃ j', leafV c (c :: p) = .ok (j', []))) : Txt (c :: r) (oneJ k n s) := by
 have hsk : ∀ t, skipB (c :: t) = c :: t := fun t => by simp only [skipB]; rw [if_neg (by rw [hs]; decide)]
 refine ⟨?_, hsk r, ?_, ?_⟩
 · refine parse_of_pv (by simp only [List.length_cons]; omega) (hsk r) ?_
   unfold fuelOf
   rw [pv_leaf hb h1 h2 (by omega) (by omega), h]
 · intro x y hx hy f n' d hf hn hd
   rw [one_len] at hn
   rw [one_deep] at hd
   obtain ⟨g, rfl⟩ : ∃ g, f = g + 1 := ⟨f - 1, by omega⟩
   rcases x with _ | ⟨c', x⟩
   · rw [pv_nil]
     exact .inl (.inl rfl)
   · simp only [List.cons_append, List.cons.injEq] at hx
     obtain ⟨rfl, hx⟩ := hx
     rw [pv_leaf hb h1 h2 (by omega) (by omega)]
     exact hcut x y hx hy
 · intro hk t f n' d hf hn hd
   rw [one_len] at hn
   rw [one_deep] at hd
   unfold fuelOf at hf
   obtain ⟨g, rfl⟩ : ∃ g, f = g + 1 := ⟨f - 1, by omega⟩
   rw [List.cons_append, pv_leaf hb h1 h2 (by omega) (by omega)]
   exact hany hk t
def cutsOk (l : List UInt8) : Bool := (List.range l.length).all fun k => k == 0 || (match unqV (l.take k) with | .error e => e == 3 | .ok _ => false)
theorem lit_cut {r p q : List UInt8} (hc : cutsOk (34 :: r) = true) (h : r = p ++ q) (hq : q ≠ []) : litV (34 :: p) = .error (34 :: p, 3) := by
 have hk : p.length + 1 < (34 :: r).length := by
  have : q.length ≠ 0 := fun h => hq (List.eq_nil_of_length_eq_zero h)
  rw [h]; simp only [List.length_cons, List.length_append]; omega
 have h1 := List.all_eq_true.1 hc (p.length + 1) (List.mem_range.2 hk)
 have ht : (34 :: r).take (p.length + 1) = 34 :: p := by rw [h]; simp
 rw [ht] at h1
 simp only [Bool.or_eq_true, beq_iff_eq] at h1
 have h2 := h1.resolve_left (by omega)
 unfold litV
 simp only
 rw [if_neg (by decide)]
 split at h2
 · rename_i e he
   rw [he]
   simp only
   rw [show e = 3 by simpa using h2]
 · cases h2
theorem lit_txt {r s : List UInt8} (hl : r.length ≤ 1000) (h : litV (34 :: r) = .ok (s, [])) (hc : cutsOk (34 :: r) = true) : Txt (34 :: r) (oneJ 5 0 (bT s)) := by
 have hlf : ∀ x, leafV 34 (34 :: x) = match litV (34 :: x) with | .error b => .error b | .ok (s, r) => .ok (oneJ 5 0 (bT s), r) := fun x => rfl
 refine leaf_txt (by decide) (by decide) (by decide) (by decide) hl (by rw [hlf, h]) (fun _ t => ?_) (fun p q hp hq => .inl ?_)
 · rw [hlf, ← List.cons_append, litV_loc h]
   rfl
 · rw [hlf, lit_cut hc hp hq]
   exact .inr ⟨[], p, rfl, rfl⟩
end Go.Proofs.YthlfljmfggmfdaaGreatDoor
namespace Go.Proofs.YthlfljmfggmfdaaGreatDoor
def says : List ByteArray := [⟨#[]⟩, ⟨#[97]⟩, ⟨#[98, 32, 99]⟩, ⟨#[34]⟩, ⟨#[195, 164]⟩, ⟨#[240, 159, 152, 128]⟩, ⟨#[47]⟩, ⟨#[0]⟩]
structure Lit (l s : List UInt8) : Prop where
 lit : litV l = .ok (s, [])
 cuts : cutsOk l = true
 q : ∃ r, l = 34 :: r
 len : l.length ≤ 15
 may : vU (bT s) = true
theorem Lit.txt {l s : List UInt8} (h : Lit l s) : Txt l (oneJ 5 0 (bT s)) := by
 obtain ⟨r, rfl⟩ := h.q
 exact lit_txt (by have := h.len; simp only [List.length_cons] at this; omega) h.lit h.cuts
theorem Lit.key {l s b0 b1 : List UInt8} (h : Lit l s) (hb0 : Blanks b0) (hb1 : Blanks b1) : KeyTxt (b0 ++ (l ++ (b1 ++ [58]))) s := by
 obtain ⟨r0, hr0⟩ := h.q
 have hsk : ∀ t, skipB (l ++ t) = l ++ t := fun t => by rw [hr0]; rfl
 refine ⟨fun had r hh => ?_, fun p q hpq hq had hh => .inl ?_⟩
 · unfold keyV
   rw [if_neg (by decide), List.append_assoc, hb0.skip, List.append_assoc, hsk, litV_loc h.lit]
   simp only [List.nil_append, List.append_assoc]
   rw [if_neg (by rw [hasKey_not.2 hh]; decide), hb1.skip]
   rfl
 · unfold keyV
   rw [if_neg (by decide)]
   rcases app_cut hpq with ⟨c, _, e⟩ | ⟨p1, rfl, h1⟩
   · rw [(hb0.pre e).none]
     exact .inl rfl
   rw [hb0.skip]
   rcases app_cut h1 with ⟨c, hc, e⟩ | ⟨p2, rfl, h2⟩
   · rcases p1 with _ | ⟨c1, p1⟩
     · exact .inl rfl
     · rw [hr0] at e
       simp only [List.cons_append, List.cons.injEq] at e
       obtain ⟨rfl, e⟩ := e
       rw [show skipB (34 :: p1) = 34 :: p1 from rfl, lit_cut (r := r0) (by rw [← hr0]; exact h.cuts) e hc]
       exact .inr ⟨b0, p1, rfl, rfl⟩
   · rw [hsk, litV_loc h.lit]
     simp only [List.nil_append]
     rw [if_neg (by rw [hasKey_not.2 hh]; decide)]
     have hp2 : Blanks p2 := by
      rcases app_cut h2 with ⟨c, _, e⟩ | ⟨x', rfl, h3⟩
      · exact hb1.pre e
      · have := congrArg List.length h3
        simp only [List.length_cons, List.length_nil, List.length_append] at this
        have hy0 : q.length ≠ 0 := fun h => hq (List.eq_nil_of_length_eq_zero h)
        have : x' = [] := List.eq_nil_of_length_eq_zero (by omega)
        rw [this, List.append_nil]
        exact hb1
     rw [hp2.none]
     exact .inl rfl
end Go.Proofs.YthlfljmfggmfdaaGreatDoor
namespace Go.Proofs.YthlfljmfggmfdaaGreatDoor
theorem bT_len (l : List UInt8) : (bT l).size = l.length := by simp [bT, ByteArray.size]
def preT (ps : List Mem) (T : List UInt8) : List UInt8 := if ps = [] then [] else T ++ [44]
structure KidsJ (obj : Bool) (deep n0 i m : Nat) (ps : List Mem) (T : List UInt8) : Prop where
 mem : ∀ p ∈ ps, MemT obj p
 zero : ps = [] → Blanks T ∧ T.length ≤ 3
 more : ps ≠ [] → ∀ c, c :: T = accL c (ps.map Mem.piece)
 deeps : J.deeps (jsM ps) + deep ≤ 7
 len : ps.length + i ≤ 4
 size : (J.flats (jsM ps)).length + 2 * m + 4 ≤ ps.length + 2 * n0
 left : m ≤ n0
 keys : obj = true → ∀ x (h : x < ps.length), ∃ s, (ps[x]).k = s ++ [UInt8.ofNat (48 + x)]
 valid : obj = true → ∀ p ∈ ps, vU p.key = true ∧ p.key.size ≤ 5
 tlen : T.length ≤ 3 + 64 * (J.flats (jsM ps)).length
theorem KidsJ.start {obj : Bool} {deep n0 i m : Nat} {T : List UInt8} (hT : Blanks T) (hl : T.length ≤ 3) (hd : deep ≤ 7) (hi : i ≤ 4) (hm : m + 2 ≤ n0) : KidsJ obj deep n0 i m [] T where
 mem := by simp
 zero _ := ⟨hT, hl⟩
 more h := absurd rfl h
 deeps := by simp only [jsM, List.map_nil, J.deeps]; omega
 len := by simpa using hi
 size := by simp only [jsM, List.map_nil, J.flats, List.length_nil]; omega
 left := by omega
 keys _ x h := by simp at h
 valid _ p h := by simp at h
 tlen := by omega
structure HeadJ (obj : Bool) (x : Nat) (kt k : List UInt8) : Prop where
 key : obj = true → KeyTxt kt k ∧ vU (bT k) = true ∧ ∃ s, k = s ++ [UInt8.ofNat (48 + x)] ∧ s.length ≤ 4
 nokey : obj = false → kt = []
 len : kt.length ≤ 22
theorem KidsJ.next {obj : Bool} {deep n0 i m m1 m2 m' : Nat} {ps : List Mem} {T kt k lead v b3 : List UInt8} {j : J} (h : KidsJ obj deep n0 (i + 1) m ps T) (hh : HeadJ obj ps.length kt k) (hl : Blanks lead) (hl3 : lead.length ≤ 3) (hb : Blanks b3) (hb3 : b3.length ≤ 3) (hv : Txt v j) (hv64 : v.length + 40 ≤ 64 * j.flat.length)
 (hd : j.deep + (deep + 1) ≤ 8) (h1 : m1 ≤ m) (h2 : j.flat.length + 2 * m2 ≤ 1 + 2 * m1) (h3 : m' ≤ m2) : KidsJ obj deep n0 i m' (ps ++ [⟨kt, k, lead ++ (v ++ b3), j⟩]) (preT ps T ++ (kt ++ (lead ++ (v ++ b3)))) where
 mem := by
  intro p hp
  rcases List.mem_append.1 hp with hp | hp
  · exact h.mem p hp
  · rw [List.mem_singleton.1 hp]
    have hm := (txt_may hv.val).1
    refine ⟨⟨lead, v, b3, rfl, hl, hb, hv⟩, ?_, fun ho => (hh.key ho).1, hh.nokey⟩
    simp only [List.length_append]
    omega
 zero h := by simp at h
 more _ c := by
  rw [List.map_append, List.map_cons, List.map_nil, accL_snoc]
  by_cases hp : ps = []
  · subst hp
    rfl
  · rw [if_neg (by simpa using hp), ← h.more hp c]
    unfold preT
    rw [if_neg hp]
    simp [Mem.piece]
 deeps := by
  have := h.deeps
  simp only [jsM, List.map_append, List.map_cons, List.map_nil] at this ⊢
  rw [deeps_append]
  simp only [J.deeps]
  omega
 len := by have := h.len; simp; omega
 size := by
  have := h.size
  simp only [jsM, List.map_append, List.map_cons, List.map_nil] at this ⊢
  rw [flats_append, flats_one, List.length_append]
  simp only [List.length_append, List.length_cons, List.length_nil]
  omega
 left := by have := h.left; have := flat_pos j; omega
 keys ho x hx := by
  rcases Nat.lt_or_ge x ps.length with hlt | hge
  · obtain ⟨s, hs⟩ := h.keys ho x hlt
    exact ⟨s, by rw [List.getElem_append_left hlt]; exact hs⟩
  · have e : x = ps.length := by simp at hx; omega
    subst e
    obtain ⟨s, hs, _⟩ := (hh.key ho).2.2
    exact ⟨s, by simpa using hs⟩
 valid ho p hp := by
  rcases List.mem_append.1 hp with hp | hp
  · exact h.valid ho p hp
  · rw [List.mem_singleton.1 hp]
    obtain ⟨a1, a2, s, hs, hl⟩ := hh.key ho
    refine ⟨a2, ?_⟩
    show (bT k).size ≤ 5
    rw [hs, bT_len, List.length_append, List.length_cons, List.length_nil]
    omega
 tlen := by
  have := h.tlen
  have := hh.len
  have hp : (preT ps T).length ≤ T.length + 1 := by
   unfold preT
   split <;> simp
  simp only [jsM, List.map_append, List.map_cons, List.map_nil] at this ⊢
  rw [flats_append, flats_one]
  simp only [List.length_append]
  simp only [jsM] at *
  omega
theorem digit_inj {x y : Nat} (hx : x < 5) (hy : y < 5) (h : UInt8.ofNat (48 + x) = UInt8.ofNat (48 + y)) : x = y := by
 have h1 := congrArg UInt8.toNat h
 simp at h1
 omega
theorem KidsJ.nodup {deep n0 i m : Nat} {ps : List Mem} {T : List UInt8} (h : KidsJ true deep n0 i m ps T) : (ps.map Mem.k).Nodup := by
 refine List.pairwise_iff_getElem.2 fun a b ha hb hab e => ?_
 simp only [List.length_map] at ha hb
 simp only [List.getElem_map] at e
 obtain ⟨s, hs⟩ := h.keys rfl a ha
 obtain ⟨t, ht⟩ := h.keys rfl b hb
 rw [hs, ht] at e
 have e2 := congrArg List.getLast? e
 simp only [List.getLast?_append, List.getLast?_singleton, Option.some_or, Option.some.injEq] at e2
 have hl := h.len
 have := digit_inj (by omega) (by omega) e2
 omega
end Go.Proofs.YthlfljmfggmfdaaGreatDoor
