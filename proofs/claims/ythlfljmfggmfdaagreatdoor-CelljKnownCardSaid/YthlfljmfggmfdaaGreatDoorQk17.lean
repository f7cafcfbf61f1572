/-  -/
import Derived.Test.YthlfljmfggmfdaaGreatDoorQk07
import Derived.Test.YthlfljmfggmfdaaGreatDoorQk16
/-! ###  -/
namespace Go.Proofs.YthlfljmfggmfdaaGreatDoor
open Go.RowKit
def ValAt (t : List Nd) (a E : Nat) (j : J) (r : List Nd) : Prop := J.Ok vU j ∧ t.drop a = j.flat ++ r ∧ a + j.flat.length ≤ E
def IsVal (t : List Nd) (a E : Nat) : Prop := ∃ j r, ValAt t a E j r
def keyOk (obj : Bool) (had : List ByteArray) (k : ByteArray) : Prop := if obj then vU k = true ∧ k ∉ had else k = none_
def keysAll (obj : Bool) (had ks : List ByteArray) : Prop := if obj then keysOk vU had ks else ∀ k ∈ ks, k = none_
def IsParts (t : List Nd) (p E : Nat) (obj : Bool) (had : List ByteArray) : Prop := ∃ l r, J.Oks vU l ∧ t.drop p = J.flats l ++ r ∧ p + (J.flats l).length = E ∧ keysAll obj had (l.map J.key)
theorem keysAll_cons {obj : Bool} {had ks : List ByteArray} {k : ByteArray} : keysAll obj had (k :: ks) ↔ keyOk obj had k ∧ keysAll obj (had ++ [k]) ks := by
 unfold keysAll keyOk
 cases obj <;> simp [keysOk, and_assoc]
theorem parts_end {t : List Nd} {E : Nat} {obj : Bool} {had : List ByteArray} : IsParts t E E obj had :=
 ⟨[], t.drop E, by simp [J.Oks], by simp [J.flats], by simp [J.flats], by unfold keysAll; cases obj <;> simp [keysOk]⟩
theorem val_unique {t : List Nd} {a E : Nat} {j j' : J} {r r' : List Nd} (h : ValAt t a E j r) (h' : t.drop a = j'.flat ++ r') : j = j' ∧ r = r' :=
 flat_unique (h.2.1.symm.trans h')
theorem drop_next {t : List Nd} {a : Nat} {j : J} {r : List Nd} (h : t.drop a = j.flat ++ r) : t.drop (a + j.flat.length) = r := by
 rw [← List.drop_drop, h, List.drop_left' rfl]
theorem parts_step {t : List Nd} {p E : Nat} {obj : Bool} {had : List ByteArray} {j : J} {r : List Nd} (hp : p < E) (hv : ValAt t p E j r) :
 IsParts t p E obj had ↔ keyOk obj had j.key ∧ IsParts t (p + j.flat.length) E obj (had ++ [j.key]) := by
 constructor
 · rintro ⟨l, r', h1, h2, h3, h4⟩
   cases l with
   | nil => simp [J.flats] at h3; omega
   | cons j' l =>
     rw [flats_cons, List.append_assoc] at h2
     obtain ⟨rfl, h5⟩ := val_unique hv h2
     rw [flats_cons, List.length_append] at h3
     rw [List.map_cons, keysAll_cons] at h4
     simp only [J.Oks] at h1
     exact ⟨h4.1, l, r', h1.2, by rw [drop_next hv.2.1, h5], by omega, h4.2⟩
 · rintro ⟨h0, l, r', h1, h2, h3, h4⟩
   refine ⟨j :: l, r', ?_, ?_, ?_, ?_⟩
   · simp only [J.Oks]; exact ⟨hv.1, h1⟩
   · rw [hv.2.1, flats_cons, List.append_assoc, ← h2, drop_next hv.2.1]
   · rw [flats_cons, List.length_append]; omega
   · rw [List.map_cons, keysAll_cons]; exact ⟨h0, h4⟩
theorem parts_none {t : List Nd} {p E : Nat} {obj : Bool} {had : List ByteArray} (hp : p < E) (h : ¬ IsVal t p E) : ¬ IsParts t p E obj had := by
 rintro ⟨l, r', h1, h2, h3, _⟩
 cases l with
 | nil => simp [J.flats] at h3; omega
 | cons j l =>
   rw [flats_cons, List.append_assoc] at h2
   rw [flats_cons, List.length_append] at h3
   simp only [J.Oks] at h1
   exact h ⟨j, J.flats l ++ r', h1.1, h2, by omega⟩
theorem val_size {t : List Nd} {a E : Nat} (ha : a < t.length) (h : IsVal t a E) : 1 ≤ t[a].size ∧ t[a].size ≤ (E : Int) - a := by
 obtain ⟨j, r, _, h2, h3⟩ := h
 obtain ⟨_, hx⟩ := head_flat h2
 have := flat_pos j
 rw [hx]
 simp only
 omega
theorem drop_split {t : List Nd} {a : Nat} (ha : a < t.length) : t.drop a = t[a] :: t.drop (a + 1) := List.drop_eq_getElem_cons ha
theorem val_leaf {t : List Nd} {a E : Nat} (ha : a < t.length) (h2 : t[a].size ≤ (E : Int) - a) (hk : t[a].kind ≠ 6) (hk' : t[a].kind ≠ 7) : IsVal t a E ↔ fitsB vU t[a] = true := by
 constructor
 · rintro ⟨⟨h, l⟩, r, g1, g2, g3⟩
   obtain ⟨_, hx⟩ := head_flat g2
   rw [hx] at hk hk' ⊢
   simp only [J.hd] at hk hk' ⊢
   simp only [J.Ok] at g1
   rcases g1 with ⟨g, rfl⟩ | ⟨g, _⟩ | ⟨g, _⟩
   · have := (fits_leaf.1 g).1
     simpa [flat_mk, J.flats] using this
   · exact absurd g hk
   · exact absurd g hk'
 · intro h
   have hlt : t[a].kind < 6 := by
    rcases Int.lt_or_le t[a].kind 6 with h' | h'
    · exact h'
    · have := (fits_kind h h').1
      omega
   have hs := fits_size h hlt
   refine ⟨.mk ⟨t[a].kind, t[a].key, t[a].n, t[a].s⟩ [], t.drop (a + 1), ?_, ?_, ?_⟩
   · simp only [J.Ok]
     refine .inl ⟨fits_leaf.2 ⟨?_, hlt⟩, by trivial⟩
     have : t[a] = ⟨t[a].kind, t[a].key, t[a].n, t[a].s, 1⟩ := by rw [← hs]
     rw [this] at h
     exact h
   · rw [drop_split ha, flat_mk]
     have : t[a] = ⟨t[a].kind, t[a].key, t[a].n, t[a].s, 1⟩ := by rw [← hs]
     simp only [J.flats, List.length_nil, List.singleton_append]
     congr 1
   · simp [flat_mk, J.flats]; omega
theorem val_hold {t : List Nd} {a E n : Nat} (ha : a < t.length) (h1 : t[a].size = (n : Int) + 1) (h2 : a + 1 + n ≤ E) (hk : t[a].kind = 6 ∨ t[a].kind = 7) :
 IsVal t a E ↔ (t[a].n = 0 ∧ t[a].s = none_) ∧ IsParts t (a + 1) (a + 1 + n) (decide (t[a].kind = 7)) [] := by
 constructor
 · rintro ⟨⟨h, l⟩, r, g1, g2, g3⟩
   obtain ⟨_, hx⟩ := head_flat g2
   rw [hx] at h1 hk ⊢
   simp only [J.hd] at h1 hk ⊢
   have hlen : (J.flats l).length = n := by rw [flat_mk, List.length_cons] at h1; omega
   simp only [J.Ok] at g1
   have hdk := drop_kids g2
   rcases g1 with ⟨g, rfl⟩ | ⟨g, gp, go, gk⟩ | ⟨g, gp, go, gk⟩
   · have := (fits_leaf.1 g).2
     omega
   · exact ⟨gp, l, r, go, hdk, by omega, by unfold keysAll; simp [g]; exact gk⟩
   · exact ⟨gp, l, r, go, hdk, by omega, by unfold keysAll; simp [g]; exact gk⟩
 · rintro ⟨gp, l, r, go, g2, g3, gk⟩
   have hlen : (J.flats l).length = n := by omega
   refine ⟨.mk ⟨t[a].kind, t[a].key, t[a].n, t[a].s⟩ l, r, ?_, ?_, ?_⟩
   · simp only [J.Ok]
     rcases hk with hk | hk
     · refine .inr (.inl ⟨hk, gp, go, fun j hj => ?_⟩)
       unfold keysAll at gk
       simp [hk] at gk
       exact gk j hj
     · refine .inr (.inr ⟨hk, gp, go, ?_⟩)
       unfold keysAll at gk
       simpa [hk] using gk
   · rw [drop_split ha, g2, flat_mk, hlen, ← h1]; rfl
   · rw [flat_mk, List.length_cons]; omega
theorem tape_iff {t : List Nd} (ht : 0 < t.length) : (∃ j, Tape vU j t) ↔ t[0].key = none_ ∧ t[0].size = t.length ∧ IsVal t 0 t.length := by
 constructor
 · rintro ⟨j, h1, h2, rfl⟩
   obtain ⟨_, hx⟩ := head_flat (t := j.flat) (a := 0) (j := j) (r := []) (by simp)
   rw [hx]
   exact ⟨h2, rfl, j, [], h1, by simp, by simp⟩
 · rintro ⟨h1, h2, j, r, g1, g2, g3⟩
   obtain ⟨_, hx⟩ := head_flat g2
   rw [hx] at h1 h2
   simp only at h2
   rw [List.drop_zero] at g2
   have : r = [] := by
    have e := congrArg List.length g2
    rw [List.length_append] at e
    exact List.eq_nil_of_length_eq_zero (by omega)
   subst this
   exact ⟨j, g1, h1, by simpa using g2⟩
end Go.Proofs.YthlfljmfggmfdaaGreatDoor

/-! ###  -/
namespace Go.Proofs.YthlfljmfggmfdaaGreatDoor
open Go.RowKit
def SaysB (P : Prop) (w : World) (e : Ending) (w' : World) : Prop := ∃ b : Bool, (b = true ↔ P) ∧ e = .returned (.bool b) ∧ Old w w'
theorem says_no {P : Prop} {w w' : World} (h : ¬ P) (o : Old w w') : SaysB P w (.returned (.bool false)) w' := ⟨false, by simp [h], rfl, o⟩
theorem says_yes {P : Prop} {w w' : World} (h : P) (o : Old w w') : SaysB P w (.returned (.bool true)) w' := ⟨true, by simp [h], rfl, o⟩
theorem says_as {P : Prop} {b : Bool} {w w' : World} (h : b = true ↔ P) (o : Old w w') : SaysB P w (.returned (.bool b)) w' := ⟨b, h, rfl, o⟩
theorem parts_key {t : List Nd} {p E : Nat} {obj : Bool} {had : List ByteArray} (hp : p < E) (hpt : p < t.length) (h : IsParts t p E obj had) : keyOk obj had t[p].key := by
 obtain ⟨l, r', h1, h2, h3, h4⟩ := h
 cases l with
 | nil => simp [J.flats] at h3; omega
 | cons j l =>
   rw [flats_cons, List.append_assoc] at h2
   obtain ⟨_, hx⟩ := head_flat h2
   rw [List.map_cons, keysAll_cons] at h4
   rw [hx]
   exact h4.1
section
variable (v : Value) (t : List Nd) (w0 : World) (a n : Nat)
set_option maxRecDepth 100000 in
set_option maxHeartbeats 1000000 in
theorem parts_list (ht : NodesIs w0 v t) (hl : t.length ≤ 4000) (ha : a < t.length) (hs : t[a].size = (n : Int) + 1) (hb : a + 1 + n ≤ t.length) (h6 : t[a].kind = 6)
 (IH : ∀ p E w, a < p → p < E → E ≤ t.length → Old w0 w → Calls Tryz.prog 93 #[v, .int .i64 p, .int .i64 E] w (SaysB (IsVal t p E) w)) :
 ∀ w, Old w0 w → Calls Tryz.prog 119 #[v, .int .i64 a] w (SaysB (IsParts t (a + 1) (a + 1 + n) false []) w) := by
 intro w ho
 obtain ⟨A, ca, rfl, hla, hma, hc⟩ := ht.nodes
 unfold maxLen at hma
 obtain ⟨b1, o1, rfl, hc1⟩ := hc.resolve_left (by omega)
 have HC := hide hc1
 have HI := hide IH
 have HO := hide ho
 obtain ⟨y0, _, _, _, y4⟩ := hc1 a ha
 rw [h6] at y0
 rw [hs] at y4
 have Y0 := hide y0
 have y0' := ho.cell y0
 have y4' := ho.cell y4
 obtain ⟨E, hE⟩ : ∃ E : Nat, Hid (a + 1 + n = E) := ⟨_, hide rfl⟩
 have hEt : E ≤ t.length := by rw [← hE.out]; exact hb
 have hn : n ≤ 4000 := by omega
 rw [hE.out]
 have haE : a + 1 ≤ E := by rw [← hE.out]; omega
 have hEn : (a : Int) + ((n : Int) + 1) = (E : Int) := by rw [← hE.out]; omega
 have HEN := hide hEn
 clear ht hc hc1 hs h6 IH ho y0 y4 hb hEn
 go_enter Tryz.func119, Tryz.ntmps119
 go_wp2_with fail
 rw [HEN.out]
 go_loopw [6] (fun i wr => ∃ (had : List ByteArray) (p : Nat), i = .int .i64 p ∧ a < p ∧ p ≤ E ∧ Hid (IsParts t (a + 1) E false [] ↔ IsParts t p E false had) ∧ Hid (Old w wr)) (fun i _ => E - (intOf i).toNat)
 case atStart => exact ⟨[], a + 1, rfl, by omega, by omega, hide Iff.rfl, hide (Old.refl _)⟩
 case round =>
  obtain ⟨had, p, rfl, hap, hpE, HIF, HW⟩ := hrel
  by_cases hlt : p < E
  · have hpt : p < t.length := by omega
    obtain ⟨x0, x1, x2, x3, x4⟩ := HC.out p hpt
    have HX4 := hide x4
    have o0 := Old.trans HO.out HW.out
    have k0 := o0.cell Y0.out
    have k1 := o0.cell x1
    have CV := hide (HI.out p E wr hap hlt hEt o0)
    clear x0 x1 x2 x3 x4 o0 y0' y4'
    by_cases hkey : t[p].key = none_
    · have hkey' : t[p].key.toList = [] := (str_none _).2 hkey
      have HKEY := hide hkey
      clear hkey
      go_wp2_with fail
      refine CV.out.mono ?_
      rintro e w1 ⟨b, hbv, rfl, ow1⟩
      have O1 := hide (Old.trans HW.out ow1)
      have HB := hide hbv
      clear hbv ow1 k0 k1
      cases b
      · go_wp2_with fail
        go_ret
        exact says_no (fun h => parts_none hlt (fun hv => by simpa using HB.out.2 hv) (HIF.out.1 h)) O1.out
      · obtain ⟨j, r, hv⟩ := HB.out.1 rfl
        obtain ⟨_, hx⟩ := head_flat hv.2.1
        obtain ⟨q, hq⟩ : ∃ q, j.flat.length = q := ⟨_, rfl⟩
        have HV := hide hv
        have hqE : p + q ≤ E := by rw [← hq]; exact hv.2.2
        have hqp : 0 < q := by rw [← hq]; exact flat_pos j
        have k4 := (Old.trans HO.out O1.out).cell HX4.out
        have k0 := (Old.trans HO.out O1.out).cell Y0.out
        rw [hx, hq] at k4
        have HQ := hide hq
        have HNX := hide (show IsParts t (a + 1) E false [] ↔ IsParts t (p + q) E false (had ++ [j.key]) by
         rw [HIF.out, parts_step hlt HV.out, HQ.out]
         have : keyOk false had j.key := by
          have e := HKEY.out
          rw [hx] at e
          exact e
         simp [this])
        clear hv hx hq hkey'
        go_wp2_with fail
        go_roundw
        case rel => exact ⟨had ++ [j.key], p + q, by go_num, by omega, hqE, HNX, O1⟩
        case measure => simp [intOf]; omega
    · have hkey' : ¬ t[p].key.toList = [] := fun h => hkey ((str_none _).1 h)
      have HKEY := hide hkey
      clear hkey
      go_wp2_with fail
      go_ret
      exact says_no (fun h => HKEY.out (parts_key hlt hpt (HIF.out.1 h))) HW.out
  · have hpe : p = E := by omega
    have HYES := hide (show IsParts t (a + 1) E false [] by rw [HIF.out, hpe]; exact parts_end)
    clear hpe y0' y4'
    go_wp2_with fail
    go_ret
    exact says_yes HYES.out HW.out
set_option maxRecDepth 100000 in
set_option maxHeartbeats 1000000 in
theorem parts_obj (ht : NodesIs w0 v t) (hl : t.length ≤ 4000) (hk : TextsOk t) (ha : a < t.length) (hs : t[a].size = (n : Int) + 1) (hb : a + 1 + n ≤ t.length) (h7 : t[a].kind = 7)
 (IH : ∀ p E w, a < p → p < E → E ≤ t.length → Old w0 w → Calls Tryz.prog 93 #[v, .int .i64 p, .int .i64 E] w (SaysB (IsVal t p E) w)) :
 ∀ w, Old w0 w → Calls Tryz.prog 119 #[v, .int .i64 a] w (SaysB (IsParts t (a + 1) (a + 1 + n) true []) w) := by
 intro w ho
 obtain ⟨A, ca, rfl, hla, hma, hc⟩ := ht.nodes
 unfold maxLen at hma
 obtain ⟨b1, o1, rfl, hc1⟩ := hc.resolve_left (by omega)
 have HC := hide hc1
 have HI := hide IH
 have HO := hide ho
 have HTX := hide hk
 obtain ⟨y0, _, _, _, y4⟩ := hc1 a ha
 rw [h7] at y0
 rw [hs] at y4
 have Y0 := hide y0
 have y0' := ho.cell y0
 have y4' := ho.cell y4
 obtain ⟨E, hE⟩ : ∃ E : Nat, Hid (a + 1 + n = E) := ⟨_, hide rfl⟩
 have hEt : E ≤ t.length := by rw [← hE.out]; exact hb
 have hn : n ≤ 4000 := by omega
 rw [hE.out]
 have haE : a + 1 ≤ E := by rw [← hE.out]; omega
 have hEn : (a : Int) + ((n : Int) + 1) = (E : Int) := by rw [← hE.out]; omega
 have HEN := hide hEn
 clear ht hc hc1 hs h7 IH ho hk y0 y4 hb hEn
 go_enter Tryz.func119, Tryz.ntmps119
 go_wp2_with fail
 rw [HEN.out]
 go_loopw [6] (fun i wr => ∃ (l1 : List J) (r1 : List Nd) (p : Nat), i = .int .i64 p ∧ a < p ∧ p ≤ E ∧ Hid (t.drop (a + 1) = J.flats l1 ++ r1) ∧ Hid (a + 1 + (J.flats l1).length = p) ∧ Hid (IsParts t (a + 1) E true [] ↔ IsParts t p E true (l1.map J.key)) ∧ Hid (Old w wr)) (fun i _ => E - (intOf i).toNat)
 case atStart => exact ⟨[], t.drop (a + 1), a + 1, rfl, by omega, by omega, hide (by simp [J.flats]), hide (by simp [J.flats]), hide Iff.rfl, hide (Old.refl _)⟩
 case round =>
  obtain ⟨l1, r1, p, rfl, hap, hpE, HD1, HP1, HIF, HW⟩ := hrel
  by_cases hlt : p < E
  · have hpt : p < t.length := by omega
    obtain ⟨x0, x1, x2, x3, x4⟩ := HC.out p hpt
    have HX1 := hide x1
    have HX4 := hide x4
    have o0 := Old.trans HO.out HW.out
    have k0 := o0.cell Y0.out
    have CV := hide (HI.out p E wr hap hlt hEt o0)
    clear x0 x1 x2 x3 x4 o0 y0' y4'
    go_wp2_with fail
    refine CV.out.mono ?_
    rintro e w1 ⟨b, hbv, rfl, ow1⟩
    have O1 := hide (Old.trans HW.out ow1)
    have HB := hide hbv
    clear hbv ow1 k0
    cases b
    · go_wp2_with fail
      go_ret
      exact says_no (fun h => parts_none hlt (fun hv => by simpa using HB.out.2 hv) (HIF.out.1 h)) O1.out
    · obtain ⟨j, r, hv⟩ := HB.out.1 rfl
      obtain ⟨_, hx⟩ := head_flat hv.2.1
      have hks := (HTX.out _ (List.getElem_mem hpt)).1
      have HX4' := hide (show w0.cell? ⟨b1, o1 + p * 5 + 4, none⟩ = some (.int .i64 j.flat.length) by have := HX4.out; rw [hx] at this; exact this)
      have HX1' := hide (show w0.cell? ⟨b1, o1 + p * 5 + 1, none⟩ = some (.string j.hd.key) by have := HX1.out; rw [hx] at this; exact this)
      rw [hx] at hks
      simp only at hks
      have HVK := hide (fun w' => ref_Valid' j.hd.key w' (by unfold maxLen at hks; omega))
      have HKE := hide (show keyOk true (l1.map J.key) j.hd.key ↔ vU j.hd.key = true ∧ j.hd.key ∉ l1.map J.key by unfold keyOk; simp)
      have HV := hide hv
      have HNX := hide (show IsParts t (a + 1) E true [] ↔ keyOk true (l1.map J.key) j.hd.key ∧ IsParts t (p + j.flat.length) E true ((l1 ++ [j]).map J.key) by
       rw [HIF.out, parts_step hlt HV.out]
       simp [J.key])
      have hqE : p + j.flat.length ≤ E := hv.2.2
      have hqp := flat_pos j
      have HDN := hide (show t.drop (a + 1) = J.flats (l1 ++ [j]) ++ r by
       have h1 := hv.2.1
       rw [← HP1.out, ← List.drop_drop, HD1.out, List.drop_left' rfl] at h1
       rw [HD1.out, h1, flats_append, flats_one, List.append_assoc])
      have HPN := hide (show a + 1 + (J.flats (l1 ++ [j])).length = p + j.flat.length by rw [flats_append, flats_one, List.length_append, ← HP1.out]; omega)
      clear hv hx HX4 HX1 hks
      obtain ⟨q, hq⟩ : ∃ q, Hid (j.flat.length = q) := ⟨_, hide rfl⟩
      rw [hq.out] at HX4' HNX hqE hqp HPN
      have k1 := (Old.trans HO.out O1.out).cell HX1'.out
      have k0 := (Old.trans HO.out O1.out).cell Y0.out
      cases hvk : vU j.hd.key
      · rw [hvk] at HKE
        have HVK1 := hide (show ∀ w', Calls Tryz.prog 89 #[.string j.hd.key] w' fun e w2 => e = .returned (.bool false) ∧ Old w' w2 by rw [← hvk]; exact HVK.out)
        clear hvk
        go_wp2_with fail
        refine (HVK1.out _).mono ?_
        rintro e w2 ⟨rfl, ow2⟩
        go_wp2_with fail
        go_ret
        exact says_no (fun h => by have := (HKE.out.1 (HNX.out.1 h).1).1; simp at this) (Old.trans O1.out ow2)
      · rw [hvk] at HKE
        have HVK1 := hide (show ∀ w', Calls Tryz.prog 89 #[.string j.hd.key] w' fun e w2 => e = .returned (.bool true) ∧ Old w' w2 by rw [← hvk]; exact HVK.out)
        clear hvk
        go_wp2_with fail
        refine (HVK1.out _).mono ?_
        rintro e w2 ⟨rfl, ow2⟩
        have O2 := hide (Old.trans O1.out ow2)
        clear ow2 k0 k1
        obtain ⟨wv, hwv⟩ : ∃ x, x = wr := ⟨_, rfl⟩
        subst hwv
        go_wp2_with fail
        go_loopw [7] (fun i wz => ∃ (la lb : List J) (p2 : Nat), i = .int .i64 p2 ∧ a < p2 ∧ p2 ≤ p ∧ Hid (l1 = la ++ lb) ∧ Hid (a + 1 + (J.flats la).length = p2) ∧ Hid (j.hd.key ∉ la.map J.key) ∧ Hid (Old w wz)) (fun i _ => p - (intOf i).toNat)
        case atStart => exact ⟨[], l1, a + 1, by go_num, by omega, by omega, hide rfl, hide (by simp [J.flats]), hide (by simp), O2⟩
        case round =>
         obtain ⟨la, lb, p2, rfl, hap2, hp2, HL, HP2, HNK, HZ⟩ := hrel
         by_cases hlt2 : p2 < p
         · have hp2t : p2 < t.length := by omega
           cases lb with
           | nil =>
             have h1 := HP2.out
             have h2 := HP1.out
             rw [HL.out, List.append_nil] at h2
             omega
           | cons jk lb =>
             have hdk : t.drop p2 = jk.flat ++ (J.flats lb ++ r1) := by
              have := HD1.out
              rw [HL.out] at this
              rw [← HP2.out, drop_part this, flats_cons, List.append_assoc]
             obtain ⟨_, hxk⟩ := head_flat hdk
             obtain ⟨z0, z1, z2, z3, z4⟩ := HC.out p2 hp2t
             rw [hxk] at z1 z4
             have hjk := flat_pos jk
             have hsum : p2 + jk.flat.length ≤ p := by
              have h1 := HP2.out
              have h2 := HP1.out
              rw [HL.out, flats_append, flats_cons, List.length_append, List.length_append] at h2
              omega
             have HPN2 := hide (show a + 1 + (J.flats (la ++ [jk])).length = p2 + jk.flat.length by rw [flats_append, flats_one, List.length_append, ← HP2.out]; omega)
             obtain ⟨q2, hq2⟩ : ∃ q, Hid (jk.flat.length = q) := ⟨_, hide rfl⟩
             rw [hq2.out] at z4 hjk hsum HPN2
             have HZ4 := hide z4
             have u1 := (Old.trans HO.out HZ.out).cell z1
             have u2 := (Old.trans HO.out HZ.out).cell HX1'.out
             have u4 := (Old.trans HO.out HZ.out).cell HZ4.out
             clear z0 z1 z2 z3 z4 hdk hxk
             by_cases hke : jk.hd.key = j.hd.key
             · have HKE2 := hide hke
               have hkt : (jk.hd.key.toList == j.hd.key.toList) = true := by rw [hke]; simp
               clear hke
               go_wp2_with fail
               go_quiet (fail)
               go_wp2_with fail
               go_ret
               exact says_no (fun h => by
                have := (HKE.out.1 (HNX.out.1 h).1).2
                apply this
                rw [HL.out]
                simp only [List.map_append, List.map_cons, List.mem_append, List.mem_cons]
                exact .inr (.inl HKE2.out.symm)) (Old.drewN HZ.out _)
             · have HKE2 := hide hke
               have hkt1 : ¬ jk.hd.key.toList = j.hd.key.toList := fun e => hke (bytes_ext e)
               have hkt : (jk.hd.key.toList == j.hd.key.toList) = false := beq_eq_false_iff_ne.2 hkt1
               clear hke hkt1
               go_wp2_with fail
               go_quiet (fail)
               go_wp2_with fail
               go_roundw
               case rel => exact ⟨la ++ [jk], lb, p2 + q2, by go_num, by omega, hsum, hide (by rw [HL.out]; simp), HPN2, hide (by
                simp only [List.map_append, List.map_cons, List.map_nil, List.mem_append, List.mem_singleton, not_or]
                exact ⟨HNK.out, fun e => HKE2.out e.symm⟩), hide (Old.drewN HZ.out _)⟩
               case measure => simp [intOf]; omega
         · have HNO := hide (show j.hd.key ∉ l1.map J.key by
            have h1 := HP2.out
            have h2 := HP1.out
            have h3 : (J.flats lb).length = 0 := by
             rw [HL.out, flats_append, List.length_append] at h2
             omega
            have h4 : lb = [] := by
             cases lb with
             | nil => rfl
             | cons x lb => have := flat_pos x; rw [flats_cons, List.length_append] at h3; omega
            rw [HL.out, h4, List.append_nil]
            exact HNK.out)
           have u4 := (Old.trans HO.out HZ.out).cell HX4'.out
           have HFIN := hide (show IsParts t (a + 1) E true [] ↔ IsParts t (p + q) E true ((l1 ++ [j]).map J.key) by
            rw [HNX.out]
            have : keyOk true (l1.map J.key) j.hd.key := HKE.out.2 ⟨by trivial, HNO.out⟩
            simp [this])
           go_wp2_with fail
           go_roundw
           case rel => exact ⟨l1 ++ [j], r, p + q, by go_num, by omega, hqE, HDN, HPN, HFIN, HZ⟩
           case measure => simp [intOf]; omega
  · have hpe : p = E := by omega
    have HYES := hide (show IsParts t (a + 1) E true [] by rw [HIF.out, hpe]; exact parts_end)
    clear hpe y0' y4'
    go_wp2_with fail
    go_ret
    exact says_yes HYES.out HW.out
end
end Go.Proofs.YthlfljmfggmfdaaGreatDoor

/-! ###  -/
namespace Go.Proofs.YthlfljmfggmfdaaGreatDoor
open Go.RowKit
def ndOf (K : Int) (key : ByteArray) (N : Int) (s : ByteArray) (Z : Int) : Nd := ⟨K, key, N, s, Z⟩
structure ValIn (t : List Nd) (a E : Nat) (v : Value) (w : World) (K : Int) (key : ByteArray) (N : Int) (s : ByteArray) (Z : Int) : Prop where
 cells : ∃ b1 o1 ca, v = .slice (some ⟨b1, o1, none⟩) t.length ca ∧ t.length ≤ ca ∧ ca ≤ maxLen ∧ w.cell? ⟨b1, o1 + a * 5, none⟩ = some (.int .i64 K) ∧ w.cell? ⟨b1, o1 + a * 5 + 1, none⟩ = some (.string key) ∧ w.cell? ⟨b1, o1 + a * 5 + 2, none⟩ = some (.int .i64 N) ∧
  w.cell? ⟨b1, o1 + a * 5 + 3, none⟩ = some (.string s) ∧ w.cell? ⟨b1, o1 + a * 5 + 4, none⟩ = some (.int .i64 Z)
 len : t.length ≤ 4000
 lt : a < E
 le : E ≤ t.length
 ssize : s.size ≤ 9223372036854775807
section
variable {t : List Nd} {a E : Nat} {v : Value} {w : World} {K : Int} {key : ByteArray} {N : Int} {s : ByteArray} {Z : Int}
set_option maxRecDepth 100000 in
set_option maxHeartbeats 1000000 in
theorem value_short (h : ValIn t a E v w K key N s Z) (hz : Z < 1) : Calls Tryz.prog 93 #[v, .int .i64 a, .int .i64 E] w fun e w' => e = .returned (.bool false) ∧ Old w w' := by
 obtain ⟨⟨b1, o1, ca, rfl, h1, h2, x0, x1, x2, x3, x4⟩, hl, hlt, hle, hs⟩ := h
 unfold maxLen at h2
 go_enter Tryz.func93, Tryz.ntmps93
 go_wp2_with fail
 go_ret
 exact ⟨rfl, (Old.refl _).alloc _⟩
set_option maxRecDepth 100000 in
set_option maxHeartbeats 1000000 in
theorem value_long (h : ValIn t a E v w K key N s Z) (hz : (E : Int) - a < Z) : Calls Tryz.prog 93 #[v, .int .i64 a, .int .i64 E] w fun e w' => e = .returned (.bool false) ∧ Old w w' := by
 obtain ⟨⟨b1, o1, ca, rfl, h1, h2, x0, x1, x2, x3, x4⟩, hl, hlt, hle, hs⟩ := h
 unfold maxLen at h2
 have hz1 : ¬ Z < 1 := by omega
 go_enter Tryz.func93, Tryz.ntmps93
 go_wp2_with fail
 go_ret
 exact ⟨rfl, (Old.refl _).alloc _⟩
set_option maxRecDepth 100000 in
set_option maxHeartbeats 4000000 in
theorem value_leaf (h : ValIn t a E v w K key N s Z) (hz1 : ¬ Z < 1) (hz2 : ¬ (E : Int) - a < Z) (h6 : ¬ K = 6) (h7 : ¬ K = 7) : Calls Tryz.prog 93 #[v, .int .i64 a, .int .i64 E] w fun e w' => e = .returned (.bool (fitsB vU (ndOf K key N s Z))) ∧ Old w w' := by
 obtain ⟨⟨b1, o1, ca, rfl, h1, h2, x0, x1, x2, x3, x4⟩, hl, hlt, hle, hs⟩ := h
 unfold maxLen at h2
 have CV := hide (fun w' => ref_Valid' s w' hs)
 clear hs
 go_enter Tryz.func93, Tryz.ntmps93
 go_wp2_with (refine (CV.out _).mono ?_; rintro e w1 ⟨rfl, o1⟩)
 all_goals go_ret
 all_goals refine ⟨ret_bool ?_, by first | exact (Old.refl _).alloc _ | exact Old.trans ((Old.refl _).alloc _) (by assumption)⟩
 all_goals (simp only [beq_iff_eq, beq_eq_false_iff_ne, ne_eq] at *)
 all_goals (rw [Bool.eq_iff_iff]; try simp [fitsB, ndOf, ← str_none, *])
 all_goals (try ((repeat' split) <;> simp_all <;> omega))
 all_goals (intro g1 g2; replace g1 := of_decide_eq_true g1; replace g2 := of_decide_eq_true g2; exfalso; omega)
set_option maxRecDepth 100000 in
set_option maxHeartbeats 1000000 in
theorem value_not (h : ValIn t a E v w K key N s Z) (hz1 : ¬ Z < 1) (hz2 : ¬ (E : Int) - a < Z) (hk : K = 6 ∨ K = 7) (hp : ¬ (N = 0 ∧ s = none_)) : Calls Tryz.prog 93 #[v, .int .i64 a, .int .i64 E] w fun e w' => e = .returned (.bool false) ∧ Old w w' := by
 obtain ⟨⟨b1, o1, ca, rfl, h1, h2, x0, x1, x2, x3, x4⟩, hl, hlt, hle, hs⟩ := h
 unfold maxLen at h2
 have HP := hide hp
 have HK := hide hk
 clear hs hp hk
 by_cases hn : N = 0
 · have hs' : ¬ s.toList = [] := fun e => HP.out ⟨hn, (str_none _).1 e⟩
   subst hn
   rcases HK.out with rfl | rfl
   all_goals
    go_enter Tryz.func93, Tryz.ntmps93
    go_wp2_with fail
    go_ret
    exact ⟨rfl, (Old.refl _).alloc _⟩
 · rcases HK.out with rfl | rfl
   all_goals
    go_enter Tryz.func93, Tryz.ntmps93
    go_wp2_with fail
    go_ret
    exact ⟨rfl, (Old.refl _).alloc _⟩
set_option maxRecDepth 100000 in
set_option maxHeartbeats 1000000 in
theorem value_hold (P : Prop) (h : ValIn t a E v w K key 0 none_ Z) (hz1 : ¬ Z < 1) (hz2 : ¬ (E : Int) - a < Z) (hk : K = 6 ∨ K = 7) (hP : ∀ w', Old w w' → Calls Tryz.prog 119 #[v, .int .i64 a] w' (SaysB P w')) : Calls Tryz.prog 93 #[v, .int .i64 a, .int .i64 E] w (SaysB P w) := by
 obtain ⟨⟨b1, o1, ca, rfl, h1, h2, x0, x1, x2, x3, x4⟩, hl, hlt, hle, hs⟩ := h
 unfold maxLen at h2
 have HP := hide hP
 have HK := hide hk
 have hne : none_.toList = [] := (str_none _).2 rfl
 clear hs hP hk
 rcases HK.out with rfl | rfl
 all_goals
  go_enter Tryz.func93, Tryz.ntmps93
  go_wp2_with fail
  refine (HP.out _ ((Old.refl _).alloc _)).mono ?_
  rintro e w1 ⟨b, hb, rfl, ow⟩
  have HB := hide hb
  clear hb
  go_wp2_with fail
  go_ret
  exact says_as HB.out (Old.trans ((Old.refl _).alloc _) ow)
end
theorem says_iff {P P' : Prop} {f : FuncId} {args : Array Value} {w : World} (h : Calls Tryz.prog f args w (SaysB P w)) (e : P ↔ P') : Calls Tryz.prog f args w (SaysB P' w) := by
 have : P = P' := propext e
 subst this
 exact h
theorem says_of {P : Prop} {b : Bool} {f : FuncId} {args : Array Value} {w : World} (h : Calls Tryz.prog f args w fun e w' => e = .returned (.bool b) ∧ Old w w') (e : b = true ↔ P) : Calls Tryz.prog f args w (SaysB P w) :=
 h.mono fun _ _ ⟨h1, h2⟩ => ⟨b, e, h1, h2⟩
theorem value_run (v : Value) (t : List Nd) (w0 : World) (ht : NodesIs w0 v t) (hl : t.length ≤ 4000) (hk : TextsOk t) : ∀ (m a E : Nat) (w : World), t.length - a ≤ m → Old w0 w → a < E → E ≤ t.length →
 Calls Tryz.prog 93 #[v, .int .i64 a, .int .i64 E] w (SaysB (IsVal t a E) w) := by
 intro m
 induction m with
 | zero => intro a E w h1 _ h3 h4; omega
 | succ m ih =>
   intro a E w h1 ho hlt hle
   have ha : a < t.length := by omega
   have IH : ∀ p E w, a < p → p < E → E ≤ t.length → Old w0 w → Calls Tryz.prog 93 #[v, .int .i64 p, .int .i64 E] w (SaysB (IsVal t p E) w) := fun p E w g1 g2 g3 g4 => ih p E w (by omega) g4 g2 g3
   obtain ⟨x, hx⟩ : ∃ x, t[a] = x := ⟨_, rfl⟩
   have hin : ValIn t a E v w x.kind x.key x.n x.s x.size := by
    obtain ⟨A, ca, rfl, h1, h2, h3⟩ := ht.nodes
    obtain ⟨b1, o1, rfl, hc⟩ := h3.resolve_left (by omega)
    obtain ⟨c0, c1, c2, c3, c4⟩ := hc a ha
    rw [hx] at c0 c1 c2 c3 c4
    refine ⟨⟨b1, o1, ca, rfl, h1, h2, ho.cell c0, ho.cell c1, ho.cell c2, ho.cell c3, ho.cell c4⟩, hl, hlt, hle, ?_⟩
    have := (hk _ (List.getElem_mem ha)).2
    rw [hx] at this
    unfold maxLen at this
    omega
   by_cases hz1 : x.size < 1
   · exact says_of (value_short hin hz1) (by
      simp only [Bool.false_eq_true, false_iff]
      intro hv
      have := (val_size ha hv).1
      rw [hx] at this
      omega)
   · by_cases hz2 : (E : Int) - a < x.size
     · exact says_of (value_long hin hz2) (by
        simp only [Bool.false_eq_true, false_iff]
        intro hv
        have := (val_size ha hv).2
        rw [hx] at this
        omega)
     · by_cases h67 : x.kind = 6 ∨ x.kind = 7
       · obtain ⟨n, hn⟩ : ∃ n : Nat, x.size = (n : Int) + 1 := ⟨x.size.toNat - 1, by omega⟩
         have hV := val_hold (t := t) (a := a) (E := E) (n := n) ha (by rw [hx]; exact hn) (by omega) (by rw [hx]; exact h67)
         by_cases hp : x.n = 0 ∧ x.s = none_
         · have hin' : ValIn t a E v w x.kind x.key 0 none_ x.size := by rw [← hp.1, ← hp.2]; exact hin
           refine says_iff (value_hold (IsParts t (a + 1) (a + 1 + n) (decide (t[a].kind = 7)) []) hin' hz1 hz2 h67 fun w' ho' => ?_) (by rw [hV, hx]; simp [hp])
           rcases h67 with h6 | h7
           · rw [show decide (t[a].kind = 7) = false by rw [hx, h6]; rfl]
             exact parts_list v t w0 a n ht hl ha (by rw [hx]; exact hn) (by omega) (by rw [hx]; exact h6) IH w' (Old.trans ho ho')
           · rw [show decide (t[a].kind = 7) = true by rw [hx, h7]; rfl]
             exact parts_obj v t w0 a n ht hl hk ha (by rw [hx]; exact hn) (by omega) (by rw [hx]; exact h7) IH w' (Old.trans ho ho')
         · exact says_of (value_not hin hz1 hz2 h67 hp) (by
            simp only [Bool.false_eq_true, false_iff]
            intro hv
            have := (hV.1 hv).1
            rw [hx] at this
            exact hp this)
       · have h6 : ¬ x.kind = 6 := fun h => h67 (.inl h)
         have h7 : ¬ x.kind = 7 := fun h => h67 (.inr h)
         refine says_of (value_leaf hin hz1 hz2 h6 h7) ?_
         have := val_leaf (t := t) (a := a) (E := E) ha (by rw [hx]; omega) (by rw [hx]; exact h6) (by rw [hx]; exact h7)
         rw [this, hx]
         rfl
end Go.Proofs.YthlfljmfggmfdaaGreatDoor
