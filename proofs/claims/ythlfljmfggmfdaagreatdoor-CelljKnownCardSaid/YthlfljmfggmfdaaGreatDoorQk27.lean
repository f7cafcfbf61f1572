/-  -/
import Derived.Test.YthlfljmfggmfdaaGreatDoorQk11
import Derived.Test.YthlfljmfggmfdaaGreatDoorQk26
import Derived.Test.YthlfljmfggmfdaaGreatDoorQk20
import Derived.Lib.OthersKept
import Derived.Lib.SlTrimSet
import Derived.Test.YthlfljmfggmfdaaGreatDoorQk03
import Derived.Maps.RangeWalk
import Derived.Maps.Views
import Derived.StringKeys
/-! ###  -/
namespace Go.Proofs.YthlfljmfggmfdaaGreatDoor
open Go.RowKit
theorem drop_nil {p : UInt8 → Bool} : ∀ l : List UInt8, l.dropWhile p = [] ↔ ∀ b ∈ l, p b = true
 | [] => by simp
 | x :: l => by
   rw [List.dropWhile_cons]
   cases h : p x
   · simp [h]
   · simp [h, drop_nil l]
theorem drop_all {p : UInt8 → Bool} : ∀ l : List UInt8, (∀ b ∈ l.dropWhile p, p b = true) → ∀ b ∈ l, p b = true
 | [], _, b, hb => by cases hb
 | x :: l, h, b, hb => by
   rw [List.dropWhile_cons] at h
   cases hx : p x
   · rw [hx] at h
     exact absurd (h x (by simp)) (by rw [hx]; decide)
   · rw [hx] at h
     rcases List.mem_cons.1 hb with rfl | hb
     · exact hx
     · exact drop_all l (by simpa using h) b hb
theorem trimS_nil (l cs : List UInt8) : Lib.trimS l cs = [] ↔ ∀ b ∈ l, cs.contains b = true := by
 unfold Lib.trimS Lib.trimLeftS Lib.trimRightS
 rw [drop_nil]
 constructor
 · intro h b hb
   exact drop_all l.reverse (fun x hx => h x (List.mem_reverse.2 hx)) b (List.mem_reverse.2 hb)
 · intro h b hb
   have e := (drop_nil l.reverse).2 (fun x hx => h x (List.mem_reverse.1 hx))
   rw [e] at hb
   cases hb
abbrev NameS : ByteArray := ⟨#[97, 98, 99, 100, 101, 102, 103, 104, 105, 106, 107, 108, 109, 110, 111, 112, 113, 114, 115, 116, 117, 118, 119, 120, 121, 122, 48, 49, 50, 51, 52, 53, 54, 55, 56, 57, 95]⟩
theorem nameS_has (b : UInt8) : NameS.data.toList.contains b = nameCh b := by
 have key : ∀ n : _root_.Fin 256, NameS.data.toList.contains (UInt8.ofNat n.val) = nameCh (UInt8.ofNat n.val) := by decide +kernel
 have h := key ⟨b.toNat, b.toNat_lt⟩
 rwa [UInt8.ofNat_toNat] at h
theorem name_first {s : ByteArray} (h0 : 0 < s.size) (h32 : s.size ≤ 32) (hl : letB (s.get! 0)) : isName s = true ↔ ∀ i, i < s.size → letB (s.get! i) ∨ moreB (s.get! i) := by
 rw [isName_iff]
 constructor
 · rintro ⟨_, _, h⟩ i hi
   rcases h i hi with h | ⟨_, h⟩
   · exact .inl h
   · exact .inr h
 · intro h
   refine ⟨h0, h32, fun i hi => ?_⟩
   rcases Nat.eq_zero_or_pos i with rfl | hp
   · exact .inl hl
   · rcases h i hi with h | h
     · exact .inl h
     · exact .inr ⟨hp, h⟩
theorem name_trim {s : ByteArray} (h0 : 0 < s.size) (h32 : s.size ≤ 32) (hl : letB (s.get! 0)) : isName s = true ↔ Lib.trimS s.data.toList NameS.data.toList = [] := by
 rw [name_first h0 h32 hl, trimS_nil]
 constructor
 · intro h b hb
   obtain ⟨i, hi⟩ := List.mem_iff_getElem?.1 hb
   have hil : i < s.size := by
    rw [show s.size = s.data.toList.length from Array.length_toList.symm]
    exact (List.getElem?_eq_some_iff.1 hi).1
   have hv := (list_get s hil).symm.trans hi
   injection hv with hv
   rw [nameS_has, nameCh_iff, ← hv]
   exact h i hil
 · intro h i hi
   have := h _ (List.mem_of_getElem? (list_get s hi))
   rwa [nameS_has, nameCh_iff] at this
theorem odd_good (x : Nat) (h : (97 ≤ x ∧ x ≤ 122) ∨ x = 95 ∨ (48 ≤ x ∧ x ≤ 57)) (w : World) : Calls Tryz.prog 112 #[.int .i32 (x : Int)] w (Ret (.bool false) w) := by
 unfold Ret
 rcases h with ⟨h1, h2⟩ | h | ⟨h1, h2⟩
 · have c1 : ¬ (x : Int) < 97 := by omega
   have c2 : ¬ (122 : Int) < (x : Int) := by omega
   go_enter Tryz.func112, Tryz.ntmps112
   go_wp2_with fail
   go_ret
   exact ⟨rfl, Old.refl _⟩
 · subst h
   go_enter Tryz.func112, Tryz.ntmps112
   go_wp2_with fail
   go_ret
   exact ⟨rfl, Old.refl _⟩
 · have c1 : (x : Int) < 97 := by omega
   have c2 : ¬ (x : Int) < 48 := by omega
   have c3 : ¬ (57 : Int) < (x : Int) := by omega
   go_enter Tryz.func112, Tryz.ntmps112
   go_wp2_with fail
   go_ret
   exact ⟨rfl, Old.refl _⟩
set_option maxRecDepth 100000 in
set_option maxHeartbeats 2000000 in
theorem names_index (s : ByteArray) (hs : ∀ i, i < s.size → letB (s.get! i) ∨ moreB (s.get! i)) (w : World) : Calls Tryz.prog 196 #[.string s, .func (.func 112) #[] #[], .bool true] w (Ret (.int .i64 (-1)) w) := by
 unfold Ret
 have HS := hide hs
 clear hs
 go_enter Tryz.func196, Tryz.ntmps196
 go_wp2_with fail
 go_loopg [] s.size (fun gf wx => ∃ pos : Nat, wx.heap[w.heap.size]? = some (.stringIter s pos) ∧ Old w wx ∧ s.size ≤ pos + gf)
 case atStart => exact ⟨0, World.iter_heap w s 0, Old.alloc (Old.refl _) _, by omega⟩
 case round =>
  obtain ⟨pos, hit, hbw, hfu⟩ := hrel
  by_cases hps : pos < s.size
  · obtain ⟨g', rfl⟩ : ∃ g', gk = g' + 1 := ⟨gk - 1, by omega⟩
    have hgood := HS.out pos hps
    have hgx : s[pos]'hps = s.get! pos := by
     have hd : pos < s.data.size := hps
     show s.data[pos]'hd = s.data[pos]!
     rw [getElem!_pos s.data pos hd]
    have hx : ((97 : Nat) ≤ (s[pos]'hps).toNat ∧ (s[pos]'hps).toNat ≤ 122) ∨ (s[pos]'hps).toNat = 95 ∨ (48 ≤ (s[pos]'hps).toNat ∧ (s[pos]'hps).toNat ≤ 57) := by
     rw [hgx]
     unfold letB moreB at hgood
     omega
    have hnx := fun ty => Lib.run_next_ascii_at (P := Tryz.prog) wr w.heap.size s pos ty hit hps (by omega)
    have hit2 := Lib.iterAt_heap wr w.heap.size s pos (pos + 1) hit
    have hbw2 : Old w (wr.iterAt w.heap.size s (pos + 1)) := Lib.below_iterAt hbw (k := w.heap.size) (Nat.le_refl _) s (pos + 1)
    obtain ⟨W, hWd⟩ : ∃ W, wr.iterAt w.heap.size s (pos + 1) = W := ⟨_, rfl⟩
    rw [hWd] at hnx hit2 hbw2
    have hltW : w.heap.size < W.heap.size := (Array.getElem?_eq_some_iff.1 hit2).1
    have cS := odd_good _ hx W
    unfold Ret at cS
    generalize (s[pos]'hps).toNat = R at *
    clear hx hgood hgx
    go_wp2_with fail
    refine cS.mono ?_
    rintro e W' ⟨rfl, hbc⟩
    go_wp2_with fail
    go_roundg g'
    case measure => omega
    case rel => exact ⟨pos + 1, (hbc.block _ hltW).trans hit2, Old.trans hbw2 hbc, by omega⟩
  · have hnx := fun ty => Lib.run_next_end_at (P := Tryz.prog) wr w.heap.size s pos ty hit hps
    go_wp2_with fail
    go_ret
    exact ⟨rfl, hbw⟩
theorem names_contains (s : ByteArray) (hs : ∀ i, i < s.size → letB (s.get! i) ∨ moreB (s.get! i)) (w : World) : Calls Tryz.prog 111 #[.string s, .func (.func 112) #[] #[]] w (Ret (.bool false) w) := by
 have CI := hide (fun w' => names_index s hs w')
 have CX : Hid (∀ w', Calls Tryz.prog 165 #[.string s, .func (.func 112) #[] #[]] w' (Ret (.int .i64 (-1)) w')) := hide (by
  intro w'
  unfold Ret at *
  go_enter Tryz.func165, Tryz.ntmps165
  go_wp2_with fail
  refine (CI.out _).mono ?_
  rintro e w1 ⟨rfl, o1⟩
  go_wp2_with fail
  go_ret
  exact ⟨rfl, o1⟩)
 unfold Ret at *
 go_enter Tryz.func111, Tryz.ntmps111
 go_wp2_with fail
 refine (CX.out _).mono ?_
 rintro e w1 ⟨rfl, o1⟩
 go_wp2_with fail
 go_ret
 exact ⟨rfl, o1⟩
set_option maxRecDepth 100000 in
set_option maxHeartbeats 2000000 in
theorem isName_run (s : ByteArray) (w : World) : Calls Tryz.prog 79 #[.string s] w (Ret (.bool (isName s)) w) := by
 unfold Ret
 have HI := hide (isName_iff s)
 have HT := hide (@name_trim s)
 have HF := hide (@name_first s)
 obtain ⟨B, hB⟩ : ∃ B, isName s = B := ⟨_, rfl⟩
 rw [hB] at HI HT HF ⊢
 clear hB
 by_cases h0 : s.size = 0
 · obtain rfl : B = false := by cases B; rfl; have := (HI.out.1 rfl).1; omega
   obtain rfl : s = ⟨#[]⟩ := by
    apply bytesD_ext
    have : s.data.toList.length = 0 := by rw [← h0]; exact Array.length_toList
    exact List.eq_nil_of_length_eq_zero this
   clear HI HT HF
   go_enter Tryz.func79, Tryz.ntmps79
   go_wp2_with fail
   go_ret
   exact ⟨rfl, Old.refl _⟩
 have hs0 : 0 < s.size := by omega
 have hne : s.toList.isEmpty = false := by
  rw [ByteArray.toList_eq]
  cases hh : s.data.toList
  · have : s.data.toList.length = 0 := by rw [hh]; rfl
    rw [Array.length_toList] at this
    exact absurd this h0
  · rfl
 by_cases h2 : 32 < s.size
 · have h2i : (32 : Int) < (s.size : Int) := by omega
   obtain rfl : B = false := by cases B; rfl; have := (HI.out.1 rfl).2.1; omega
   clear HI HT HF
   go_enter Tryz.func79, Tryz.ntmps79
   go_wp2_with fail
   go_ret
   exact ⟨rfl, Old.refl _⟩
 have h2i : ¬ (32 : Int) < (s.size : Int) := by omega
 have gk := get_at s hs0
 obtain ⟨b, hb⟩ : ∃ b, Hid (s.get! 0 = b) := ⟨_, hide rfl⟩
 rw [hb.out] at gk
 have BAD : Hid (¬ letB b → B = false) := hide (fun hn => by
  cases B
  · rfl
  · rcases (HI.out.1 rfl).2.2 0 hs0 with h | ⟨h, _⟩
    · rw [hb.out] at h; exact absurd h hn
    · omega)
 by_cases c1 : b.toNat < 97
 · have c1i : (b.toNat : Int) < 97 := by omega
   obtain rfl : B = false := BAD.out (by unfold letB; omega)
   clear HI HT HF BAD
   go_enter Tryz.func79, Tryz.ntmps79
   go_wp2_with fail
   go_ret
   exact ⟨rfl, Old.refl _⟩
 have c1i : ¬ (b.toNat : Int) < 97 := by omega
 by_cases c2 : 122 < b.toNat
 · have c2i : (122 : Int) < (b.toNat : Int) := by omega
   obtain rfl : B = false := BAD.out (by unfold letB; omega)
   clear HI HT HF BAD
   go_enter Tryz.func79, Tryz.ntmps79
   go_wp2_with fail
   go_ret
   exact ⟨rfl, Old.refl _⟩
 have c2i : ¬ (122 : Int) < (b.toNat : Int) := by omega
 have HL : letB (s.get! 0) := by rw [hb.out]; unfold letB; omega
 have HT2 := hide (HT.out hs0 (by omega) HL)
 have HF2 := hide (HF.out hs0 (by omega) HL)
 have CT := hide (fun w' => Tryz.strings_Trim_laid s NameS w' (by omega) (by decide) (ascii_of_all (by decide)))
 obtain ⟨T, hT⟩ : ∃ T : ByteArray, Hid ((⟨(Lib.trimS s.data.toList NameS.data.toList).toArray⟩ : ByteArray) = T) := ⟨_, hide rfl⟩
 rw [hT.out] at CT
 have HTB : Hid (B = true ↔ T = ⟨#[]⟩) := hide (by
  rw [HT2.out, ← hT.out]
  constructor
  · intro h; rw [h]
  · intro h
    have := congrArg (fun x : ByteArray => x.data.toList) h
    simpa using this)
 clear HI HT HF BAD HL HT2
 by_cases ht : T = ⟨#[]⟩
 · obtain rfl : B = true := HTB.out.2 ht
   subst ht
   have CC := hide (fun w' => names_contains s (HF2.out.1 rfl) w')
   unfold Ret at CC
   clear HF2 HTB hT
   go_enter Tryz.func79, Tryz.ntmps79
   go_wp2_with fail
   refine (CT.out _).mono ?_
   rintro e w1 ⟨rfl, o1⟩
   have O1 := hide (show Old w w1 from o1)
   clear o1 CT
   go_wp2_with fail
   refine (CC.out _).mono ?_
   rintro e w2 ⟨rfl, o2⟩
   go_wp2_with fail
   go_ret
   exact ⟨rfl, Old.trans O1.out o2⟩
 · obtain rfl : B = false := by
    cases B
    · rfl
    · exact absurd (HTB.out.1 rfl) ht
   have hte : T.toList.isEmpty = false := by
    rw [ByteArray.toList_eq]
    cases hh : T.data.toList
    · exact absurd (bytesD_ext (by rw [hh])) ht
    · rfl
   clear HF2 HTB hT ht
   go_enter Tryz.func79, Tryz.ntmps79
   go_wp2_with fail
   refine (CT.out _).mono ?_
   rintro e w1 ⟨rfl, o1⟩
   have O1 := hide (show Old w w1 from o1)
   clear o1 CT
   go_wp2_with fail
   go_ret
   exact ⟨rfl, O1.out⟩
end Go.Proofs.YthlfljmfggmfdaaGreatDoor

/-! ###  -/
namespace Go.Proofs.YthlfljmfggmfdaaGreatDoor
open Go.RowKit Go.Maps Go.WideMaps
structure Chg (X : Nat → Prop) (w w' : World) : Prop where
 os : w'.os = w.os
 tape : w'.tape = w.tape
 output : w'.output = w.output
 size : w.heap.size ≤ w'.heap.size
 block : ∀ b, b < w.heap.size → ¬ X b → w'.heap[b]? = w.heap[b]?
theorem Chg.refl (X : Nat → Prop) (w : World) : Chg X w w := ⟨rfl, rfl, rfl, Nat.le_refl _, fun _ _ _ => rfl⟩
theorem Chg.trans {X Y Z : Nat → Prop} {a b c : World} (h : Chg X a b) (k : Chg Y b c) (h1 : ∀ n, n < a.heap.size → X n → Z n) (h2 : ∀ n, n < a.heap.size → Y n → Z n) : Chg Z a c :=
 ⟨k.os.trans h.os, k.tape.trans h.tape, k.output.trans h.output, Nat.le_trans h.size k.size, fun n hn hz =>
  (k.block n (Nat.lt_of_lt_of_le hn h.size) (fun e => hz (h2 n hn e))).trans (h.block n hn (fun e => hz (h1 n hn e)))⟩
theorem Chg.mono {X Y : Nat → Prop} {a b : World} (h : Chg X a b) (hx : ∀ n, n < a.heap.size → X n → Y n) : Chg Y a b :=
 ⟨h.os, h.tape, h.output, h.size, fun n hn hz => h.block n hn (fun e => hz (hx n hn e))⟩
theorem Chg.of_old {X : Nat → Prop} {a b : World} (h : Old a b) : Chg X a b := ⟨h.os, h.tape, h.output, h.size, fun n hn _ => h.block n hn⟩
theorem Chg.of_grown {r : Nat} {a b : World} (h : a.grownBy b (some r)) : Chg (fun n => n = r) a b := ⟨h.os, h.tape, h.output, h.size, fun n hn hz => h.block n hn (by simpa using hz)⟩
theorem Chg.below {X : Nat → Prop} {lo : Nat} {a b : World} (h : Chg X a b) (hlo : lo ≤ a.heap.size) (hx : ∀ n, n < lo → ¬ X n) : Below lo a b := ⟨h.os, h.tape, h.output, h.size, fun n hn => h.block n (by omega) (hx n hn)⟩
theorem Chg.old {X : Nat → Prop} {a b : World} (h : Chg X a b) (hx : ∀ n, n < a.heap.size → ¬ X n) : Old a b := h.below (Nat.le_refl _) hx
theorem Chg.step {X : Nat → Prop} {a b c : World} (h : Chg X a b) (k : Old b c) : Chg X a c := h.trans (Chg.of_old (X := X) k) (fun _ _ e => e) (fun _ _ e => e)
def SlB (B : Nat → Prop) (w : World) (v : Value) (n : Nat) (xs : List Value) : Prop :=
 ∃ A cap, v = .slice A n cap ∧ n ≤ cap ∧ cap ≤ maxLen ∧
  (xs ≠ [] → ∃ b off, A = some ⟨b, off, none⟩ ∧ B b ∧ b < w.heap.size ∧ ∀ j u, xs[j]? = some u → w.cell? ⟨b, off + j, none⟩ = some u)
section
variable {B B' : Nat → Prop} {w w' : World} {v : Value} {n lo T : Nat} {xs : List Value}
theorem SlB.sl (h : SlB B w v n xs) : Sl w v n xs := by
 obtain ⟨A, cap, rfl, h1, h2, h3⟩ := h
 refine ⟨A, cap, rfl, h1, h2, fun hx => ?_⟩
 obtain ⟨b, off, rfl, _, _, hc⟩ := h3 hx
 exact ⟨b, off, rfl, hc⟩
theorem SlB.keep (h : SlB B w v n xs) (hs : w.heap.size ≤ w'.heap.size) (hk : ∀ b, b < w.heap.size → B b → w'.heap[b]? = w.heap[b]?) : SlB B w' v n xs := by
 obtain ⟨A, cap, rfl, h1, h2, h3⟩ := h
 refine ⟨A, cap, rfl, h1, h2, fun hx => ?_⟩
 obtain ⟨b, off, rfl, hb, hl, hc⟩ := h3 hx
 exact ⟨b, off, rfl, hb, Nat.lt_of_lt_of_le hl hs, fun j u hu => (World.cell?_of_block (a := ⟨b, off + j, none⟩) (hk b hl hb)).trans (hc j u hu)⟩
theorem SlB.chg {X : Nat → Prop} (h : SlB B w v n xs) (c : Chg X w w') (hd : ∀ b, b < w.heap.size → B b → ¬ X b) : SlB B w' v n xs := h.keep c.size fun b h1 h2 => c.block b h1 (hd b h1 h2)
theorem SlB.old (h : SlB B w v n xs) (o : Old w w') : SlB B w' v n xs := h.keep o.size fun b h1 _ => o.block b h1
theorem SlB.mono (h : SlB B w v n xs) (hB : ∀ b, b < w.heap.size → B b → B' b) : SlB B' w v n xs := by
 obtain ⟨A, cap, rfl, h1, h2, h3⟩ := h
 refine ⟨A, cap, rfl, h1, h2, fun hx => ?_⟩
 obtain ⟨b, off, rfl, hb, hl, hc⟩ := h3 hx
 exact ⟨b, off, rfl, hB b hl hb, hl, hc⟩
theorem SlT.slb (h : SlT T lo w v n xs) : SlB (fun b => lo ≤ b) w v n xs := by
 obtain ⟨A, cap, rfl, h1, h2, h3⟩ := h
 refine ⟨A, cap, rfl, h1, h2, fun hx => ?_⟩
 obtain ⟨b, off, cs, rfl, hl, hh, hc⟩ := h3 hx
 exact ⟨b, off, rfl, hl, block_lt hh, fun j u hu => (cell_of_heap hh).trans (hc j u hu)⟩
theorem SlB.nil_ (w : World) : SlB B w (.slice none 0 0) 0 [] := ⟨none, 0, rfl, Nat.le_refl _, Nat.zero_le _, fun h => absurd rfl h⟩
theorem SlB.form (h : SlB B w v n xs) : ∃ A cap, v = .slice A n cap := by obtain ⟨A, cap, rfl, _⟩ := h; exact ⟨A, cap, rfl⟩
end
theorem Sl.chg {X : Nat → Prop} {w w' : World} {v : Value} {n : Nat} {xs : List Value} (h : Sl w v n xs) (c : Chg X w w') (hd : ∀ (b : Nat) cs T f, w.heap[b]? = some (.cells cs T f) → ¬ X b) : Sl w' v n xs := by
 obtain ⟨A, cap, rfl, h1, h2, h3⟩ := h
 refine ⟨A, cap, rfl, h1, h2, fun hx => ?_⟩
 obtain ⟨b, off, rfl, hc⟩ := h3 hx
 refine ⟨b, off, rfl, fun j u hu => ?_⟩
 have hcell := hc j u hu
 have hl := World.block_lt_of_cell? w _ hcell
 refine (World.cell?_of_block (a := ⟨b, off + j, none⟩) (c.block b hl ?_)).trans hcell
 intro hx
 unfold World.cell? at hcell
 split at hcell
 · rename_i cs T f he
   exact hd b cs T f he hx
 · cases hcell
abbrev DW := DataW Value
def rawR (v : Value) : Option (DW × List MemPlace) := some (.held v, [])
theorem str_inv {P : Program} {k : TypeId} (hk : P.underlying k = some .string) {key : Value} {kl : Lit} (h : keyOf P k key = some kl) : ∃ s : ByteArray, key = .string s ∧ kl = .string s.data.toList ∧ s.size ≤ maxLen := by
 rw [keyOf_string hk] at h
 cases key <;> simp [mapKey, hk] at h
 exact ⟨_, rfl, h.2.symm, h.1⟩
theorem str_ext {a b : ByteArray} (h : (Lit.string a.data.toList) = .string b.data.toList) : a = b := bytesD_ext (by injection h)
def upd (m : ByteArray → Option Value) (s : ByteArray) (v : Option Value) : ByteArray → Option Value := fun x => if x = s then v else m x
structure Has (D : DW) (m : ByteArray → Option Value) : Prop where
 has : ∀ s, Maps.has D (.string s.data.toList) = (m s).isSome
 at_ : ∀ s v, m s = some v → ∀ z, D.atKey (.string s.data.toList) z = .held v
theorem Has.put {D : DW} {m : ByteArray → Option Value} (h : Has D m) (hD : IsMap D) (s : ByteArray) (v : Value) : Has (D.put (.string s.data.toList) (.held v)) (upd m s (some v)) where
 has := fun x => by
  unfold upd
  by_cases e : x = s
  · subst e
    rw [Maps.has_put_same hD (by simp [WideAt.IsKeyLit]), if_pos rfl]; rfl
  · rw [Maps.has_put_other (fun hh => e (str_ext hh)), if_neg e, h.has]
 at_ := fun x u hu z => by
  unfold upd at hu
  by_cases e : x = s
  · subst e
    rw [if_pos rfl] at hu
    cases hu
    exact Maps.atKey_put_same hD (by simp [WideAt.IsKeyLit]) _ z
  · rw [if_neg e] at hu
    rw [Maps.atKey_put_other (fun hh => e (str_ext hh)), h.at_ x u hu]
section
variable {P : Program} {k : TypeId} {w : World} {b r n cnt : Nat} {m : ByteArray → Option Value} {left : ByteArray → Bool}
def TMap (P : Program) (k : TypeId) (w : World) (b n : Nat) (m : ByteArray → Option Value) : Prop := ∃ D : DW, w.ownsMap P k rawR b n D ∧ Has D m
theorem TMap.made (w : World) (P : Program) (k : TypeId) : TMap P k (w.alloc (.map #[] 0)) w.heap.size 0 (fun _ => none) :=
 ⟨.map [], World.ownsMap_made w P k rawR, fun _ => rfl, fun _ _ h => by cases h⟩
theorem TMap.mono (h : TMap P k w b n m) {n' : Nat} (hn : n ≤ n') : TMap P k w b n' m := by obtain ⟨D, h1, h2⟩ := h; exact ⟨D, h1.mono hn, h2⟩
theorem TMap.lt (h : TMap P k w b n m) : b < w.heap.size := by obtain ⟨D, h1, _⟩ := h; exact h1.lt
theorem TMap.isMap (h : TMap P k w b n m) : ∃ es c, w.heap[b]? = some (.map es c) := by obtain ⟨D, ⟨es, c, h1, _⟩, _⟩ := h; exact ⟨es, c, h1⟩
theorem TMap.keep {w' : World} (h : TMap P k w b n m) (hb : w'.heap[b]? = w.heap[b]?) : TMap P k w' b n m := by
 obtain ⟨D, ⟨es, c, h1, h2⟩, h3⟩ := h
 exact ⟨D, ⟨es, c, hb.trans h1, h2⟩, h3⟩
theorem TMap.old {w' : World} (h : TMap P k w b n m) (o : Old w w') : TMap P k w' b n m := h.keep (o.block b h.lt)
theorem TMap.chg {X : Nat → Prop} {w' : World} (h : TMap P k w b n m) (c : Chg X w w') (hx : ¬ X b) : TMap P k w' b n m := h.keep (c.block b h.lt hx)
theorem TMap.congr {m' : ByteArray → Option Value} (h : TMap P k w b n m) (e : ∀ s, m s = m' s) : TMap P k w b n m' := by
 have : m = m' := funext e
 subst this
 exact h
theorem TMap.look {t e : TypeId} (h : TMap P k w b n m) (hk : P.underlying k = some .string) (ht : P.underlying t = some (.map k e)) {z : Value} (hz : (zeroValue e).run P w = .ok z w) {s : ByteArray} (hs : s.size ≤ maxLen) :
 (Instr.lookup t (.map (some b)) (.string s) false).run P w = .ok ((m s).getD z) w := by
 obtain ⟨D, h1, h2⟩ := h
 obtain ⟨v, ps, hrun, hv⟩ := h1.lookup (string_keyed hk) ht hz (zd := .held z) (zp := []) rfl (keyOf_string_mk hk hs)
 rw [hrun]
 simp only [rawR, Option.some.injEq, Prod.mk.injEq] at hv
 have hv1 := hv.1
 cases hm : m s with
 | none =>
   rw [Maps.atKey_of_not_has (by rw [h2.has, hm]; rfl)] at hv1
   injection hv1 with hv1
   rw [hv1]; rfl
 | some u =>
   rw [h2.at_ s u hm] at hv1
   injection hv1 with hv1
   rw [hv1]; rfl
theorem TMap.put {t e : TypeId} (h : TMap P k w b n m) (hk : P.underlying k = some .string) (ht : P.underlying t = some (.map k e)) (hn : n < maxLen) {s : ByteArray} (hs : s.size ≤ maxLen) (v : Value) :
 ∃ w', (Instr.mapUpdate t (.map (some b)) (.string s) v).run P w = .ok () w' ∧ TMap P k w' b (n + 1) (upd m s (some v)) ∧ w.grownBy w' (some b) := by
 obtain ⟨D, h1, h2⟩ := h
 obtain ⟨w', hrun, h3, h4⟩ := h1.update (string_keyed hk) ht hn (keyOf_string_mk hk hs) (d := .held v) (ps := []) rfl
 exact ⟨w', hrun, ⟨_, h3, h2.put h1.isMap s v⟩, h4⟩
def TRng (P : Program) (k : TypeId) (w : World) (b r n : Nat) (m : ByteArray → Option Value) (left : ByteArray → Bool) (cnt : Nat) : Prop :=
 ∃ (D : DW) (lf : Lit → Bool), w.ranges P k rawR b r n D lf cnt ∧ Has D m ∧ ∀ s, lf (.string s.data.toList) = left s
theorem TRng.left_eq (h : TRng P k w b r n m left cnt) : w.rangeLeft b r = cnt := by obtain ⟨D, lf, h1, _⟩ := h; exact h1.left_eq
theorem TRng.lt (h : TRng P k w b r n m left cnt) : r < w.heap.size := by obtain ⟨D, lf, h1, _⟩ := h; exact h1.lt
theorem TRng.is (h : TRng P k w b r n m left cnt) : TMap P k w b n m := by obtain ⟨D, lf, h1, h2, _⟩ := h; exact ⟨D, h1.owns, h2⟩
theorem TRng.keep {w' : World} {row : Option Nat} (h : TRng P k w b r n m left cnt) (hg : w.grownBy w' row) (hb : some b ≠ row) (hr : some r ≠ row) : TRng P k w' b r n m left cnt := by
 obtain ⟨D, lf, h1, h2, h3⟩ := h
 exact ⟨D, lf, h1.kept hg hb hr, h2, h3⟩
theorem TRng.chg {X : Nat → Prop} {w' : World} (h : TRng P k w b r n m left cnt) (c : Chg X w w') (hb : ¬ X b) (hr : ¬ X r) : TRng P k w' b r n m left cnt := by
 obtain ⟨D, lf, h1, h2, h3⟩ := h
 have l1 := h1.owns.lt
 have l2 := h1.lt
 obtain ⟨es, clock, since, seen, c0, q1, F, q2, q3, q4, rest⟩ := h1
 exact ⟨D, lf, ⟨es, clock, since, seen, c0, (c.block b l1 hb).trans q1, F, q2, q3, (c.block r l2 hr).trans q4, rest⟩, h2, h3⟩
theorem TRng.old {w' : World} (h : TRng P k w b r n m left cnt) (o : Old w w') : TRng P k w' b r n m left cnt := h.chg (X := fun _ => False) (Chg.of_old o) (fun e => e) (fun e => e)
theorem TMap.range {t e : TypeId} (h : TMap P k w b n m) (hk : P.underlying k = some .string) (ht : P.underlying t = some (.map k e)) :
 ∃ w', (Instr.range t (.map (some b))).run P w = .ok (.pointer (some ⟨w.heap.size, 0, none⟩)) w' ∧ (∃ cnt, TRng P k w' b w.heap.size n m (fun s => (m s).isSome) cnt) ∧ Old w w' ∧ w'.heap.size = w.heap.size + 1 := by
 obtain ⟨D, h1, h2⟩ := h
 obtain ⟨w', hrun, h3, h4, h5⟩ := h1.range (string_keyed hk) ht
 exact ⟨w', hrun, ⟨_, D, _, h3, h2, h2.has⟩, ⟨h4.os, h4.tape, h4.output, h4.size, fun j hj => h4.block j hj (by simp)⟩, h5⟩
theorem TRng.next (h : TRng P k w b r n m left cnt) (hk : P.underlying k = some .string) (ty : TypeId) :
 ((∀ s, left s = false) ∧ (Instr.next (.pointer (some ⟨r, 0, none⟩)) false ty).run P w = .ok (.tuple #[.bool false]) w) ∨
 ∃ s v w' cnt', s.size ≤ maxLen ∧ left s = true ∧ m s = some v ∧ (Instr.next (.pointer (some ⟨r, 0, none⟩)) false ty).run P w = .ok (.tuple #[.bool true, .string s, v]) w' ∧
  TRng P k w' b r n m (fun x => left x && !decide (x = s)) cnt' ∧ cnt' < cnt ∧ w.grownBy w' (some r) ∧ w'.heap.size = w.heap.size ∧ (Instr.entry (.pointer (some ⟨r, 0, none⟩))).run P w' = .ok (.tuple #[.string s, v]) w' := by
 obtain ⟨D, lf, h1, h2, h3⟩ := h
 rcases h1.next (string_keyed hk) ty with ⟨_, hl, hrun⟩ | ⟨key, v, kl, y, w', cnt', hkey, hlk, hv, hat, hrun, hrg, hlt, hgr, hsz, hen⟩
 · exact .inl ⟨fun s => by rw [← h3, hl], hrun⟩
 · obtain ⟨s, rfl, rfl, hsl⟩ := str_inv hk hkey
   refine .inr ⟨s, v, w', cnt', hsl, by rw [← h3, hlk], ?_, hrun, ⟨D, _, hrg, h2, fun x => ?_⟩, hlt, hgr, hsz, hen⟩
   · have hh : Maps.has D (.string s.data.toList) = true := Maps.has_true_of_atKey hat
     rw [h2.has] at hh
     obtain ⟨u, hu⟩ := Option.isSome_iff_exists.1 hh
     have h4 := h2.at_ s u hu .nil
     rw [hat .nil] at h4
     simp only [rawR, Option.some.injEq] at hv
     subst hv
     injection h4 with h4
     rw [hu, h4]
   · show (lf (.string x.data.toList) && !(Lit.string x.data.toList).sameKey (.string s.data.toList)) = _
     rw [h3]
     congr 2
     show (x.data.toList == s.data.toList) = decide (x = s)
     by_cases e : x = s
     · subst e; simp
     · have : ¬ x.data.toList = s.data.toList := fun hh => e (bytesD_ext hh)
       rw [beq_eq_false_iff_ne.2 this, decide_eq_false e]
end
section
variable {P : Program} (w : World) {o : Oper} {a : Act} {K : Act → World → Prop} {Q : Exit → Act → World → Prop}
theorem step_map_put (mo x vo : Operand) (t : TypeId) (hop : o.op = Op.mapUpdate t mo x vo) (k e : TypeId) (hk : P.underlying k = some .string) (ht : P.underlying t = some (.map k e)) (b n : Nat) (m : ByteArray → Option Value)
 (hm : a.eval mo = .map (some b)) (h : TMap P k w b n m) (hn : n < maxLen) (s : ByteArray) (hs : s.size ≤ maxLen) (v : Value) (hx : a.eval x = .string s) (hv : a.eval vo = v)
 (hK : ∀ w', TMap P k w' b (n + 1) (upd m s (some v)) → w.grownBy w' (some b) → K (a.put o.dst undef) w') : o.wp P a w K Q := by
 obtain ⟨w', hrun, r1, r2⟩ := h.put hk ht hn hs v
 unfold Oper.wp
 simp [execOp, hop, hm, hx, hv, hrun, Result.andThen]
 exact hK w' r1 r2
end
end Go.Proofs.YthlfljmfggmfdaaGreatDoor

/-! ###  -/
namespace Go.Proofs.YthlfljmfggmfdaaGreatDoor
open Go.RowKit
theorem undS : Tryz.prog.underlying 9 = some .string := Tryz.underlying9
def had1 (l : List ByteArray) : ByteArray → Option Value := fun s => if hasKey l s then some (.int .i64 1) else none
theorem had1_next (l : List ByteArray) (N : ByteArray) : upd (had1 l) N (some (.int .i64 1)) = had1 (l ++ [N]) := by
 funext s
 unfold upd had1
 have e : hasKey (l ++ [N]) s = (hasKey l s || decide (N = s)) := by simp [hasKey]
 rw [e]
 by_cases h : s = N
 · subst h
   simp
 · have h2 : ¬ N = s := fun e => h e.symm
   simp [h, h2]
theorem named_bad {cols : List Col} {B : Bool} (h : B = true ↔ ∀ i, (hi : i < cols.length) → isName (cols[i]).name = true ∧ ∀ k, (hk : k < i) → (cols[k]).name ≠ (cols[i]).name) {i : Nat} (hi : i < cols.length) (hin : (cols[i]).name ∈ (cols.map Col.name).take i) : B = false := by
 cases B
 · rfl
 · obtain ⟨k, hk, e⟩ := List.mem_take_iff_getElem.1 hin
   rw [List.getElem_map] at e
   exact absurd e ((h.1 rfl i hi).2 k (by omega))
theorem not_in {cols : List Col} {i : Nat} (hi : i < cols.length) (h : (cols[i]).name ∉ (cols.map Col.name).take i) : ∀ k, (hk : k < i) → (cols[k]).name ≠ (cols[i]).name := by
 intro k hk e
 exact h (List.mem_take_iff_getElem.2 ⟨k, by simp; omega, by rw [List.getElem_map]; exact e⟩)
theorem names_take {cols : List Col} {i : Nat} (hi : i < cols.length) : (cols.map Col.name).take (i + 1) = (cols.map Col.name).take i ++ [(cols[i]).name] := by
 have h : i < (cols.map Col.name).length := by simpa using hi
 rw [List.take_succ_eq_append_getElem h, List.getElem_map]
set_option maxRecDepth 100000 in
set_option maxHeartbeats 4000000 in
theorem named_run (v : Value) (cols : List Col) (w : World) (hc : ColsIs w v cols) (hn : ∀ c ∈ cols, c.name.size ≤ maxLen) : Calls Tryz.prog 37 #[v] w (Ret (.bool (namedB cols)) w) := by
 unfold Ret
 have HI := hide (named_iff cols)
 have HNS := hide hn
 obtain ⟨B, hB⟩ : ∃ B, namedB cols = B := ⟨_, rfl⟩
 rw [hB] at HI ⊢
 clear hB hn
 obtain ⟨A, cap, rfl, _, hm, hc⟩ := cols_form hc
 unfold maxLen at hm
 have HC := hide hc
 clear hc
 have hmm := @run_makeMap Tryz.prog
 go_enter Tryz.func37, Tryz.ntmps37
 go_wp2_with fail
 go_loopw [9] (fun iv wr => ∃ i : Nat, iv = .int .i64 i ∧ i ≤ cols.length ∧ Hid (∀ j, j < i → (hj : j < cols.length) → isName (cols[j]).name = true ∧ ∀ k, (hk : k < j) → (cols[k]).name ≠ (cols[j]).name) ∧ Hid (TMap Tryz.prog 9 wr w.heap.size i (had1 ((cols.map Col.name).take i))) ∧ Hid (Old w wr)) (fun iv _ => cols.length - (intOf iv).toNat)
 case atStart => exact ⟨0, rfl, Nat.zero_le _, hide (fun j h => by omega), hide ((TMap.made w _ _).congr fun _ => rfl), hide (Old.alloc (Old.refl _) _)⟩
 case round =>
  clear hmm
  obtain ⟨i, rfl, hi, HK, HM, HO⟩ := hrel
  by_cases hlt : i < cols.length
  · have hli : (i : Int) < (cols.length : Int) := by omega
    obtain ⟨b2, o2, rfl, hc2⟩ := HC.out.resolve_left (by omega)
    obtain ⟨x0, x1, x2, x3, x4, x5, x6⟩ := (hc2 i hlt).old HO.out
    obtain ⟨N, hN⟩ : ∃ N, Hid ((cols[i]).name = N) := ⟨_, hide rfl⟩
    have hsz : N.size ≤ maxLen := by rw [← hN.out]; exact HNS.out _ (List.getElem_mem hlt)
    have HBAD := hide (named_bad HI.out hlt)
    have HNI := hide (not_in hlt)
    have HNX := hide (names_take hlt)
    have CN := hide (fun w' => isName_run N w')
    have HNM := hide (show B = true → isName N = true from fun h => by rw [← hN.out]; exact (HI.out.1 h i hlt).1)
    have HKN := hide (show isName N = true → (∀ k, (hk : k < i) → (cols[k]).name ≠ N) → ∀ j, j < i + 1 → (hj : j < cols.length) → isName (cols[j]).name = true ∧ ∀ k, (hk : k < j) → (cols[k]).name ≠ (cols[j]).name from fun h1 h2 j hj hjl => by
     rcases Nat.lt_or_ge j i with h' | h'
     · exact HK.out j h' hjl
     · obtain rfl : j = i := by omega
       rw [hN.out]
       exact ⟨h1, h2⟩)
    rw [hN.out] at HBAD HNI HNX x1
    generalize cols[i] = x at x0 x2 x3 x4 x5 x6
    have hz : ∀ w', (zeroValue 3).run Tryz.prog w' = .ok (.int .i64 0) w' := fun w' => Tryz.zeroValue3 w'
    have hlk := fun o => (HM.out.old (Old.alloc (Old.refl wr) o)).look undS Tryz.underlying105 (hz _) hsz
    have hbm : ¬ wr.heap.size = w.heap.size := by have := HM.out.lt; omega
    unfold Ret at CN
    by_cases hin : N ∈ (cols.map Col.name).take i
    · obtain rfl : B = false := HBAD.out hin
      have hh : had1 ((cols.map Col.name).take i) N = some (.int .i64 1) := by unfold had1; rw [if_pos (hasKey_iff.2 hin)]
      rw [hh] at hlk
      simp only [Option.getD_some] at hlk
      clear hh HBAD HNI HKN HNM CN
      go_upto_region 6 with (at_mapUpdate; refine wpList_plain rfl (fun K hK => ?_); refine step_map_put _ _ _ _ _ rfl _ _ undS Tryz.underlying105 w.heap.size i (had1 ((cols.map Col.name).take i)) rfl (HM.out.old (Old.alloc (Old.refl _) _)) (by unfold maxLen; omega) N hsz (.int .i64 2) rfl rfl ?_; intro w3 K3 G3; refine hK _ _ ?_; clear hK)
      have hl2 := K3.look undS Tryz.underlying105 (hz _) hsz
      have hh2 : upd (had1 ((cols.map Col.name).take i)) N (some (.int .i64 2)) N = some (.int .i64 2) := by unfold upd; rw [if_pos rfl]
      rw [hh2] at hl2
      simp only [Option.getD_some] at hl2
      have y1 : w3.cell? ⟨wr.heap.size, 1, none⟩ = some (.string N) := (World.cell?_of_block (a := ⟨wr.heap.size, 1, none⟩) (G3.block _ (by simp) (by simpa using hbm))).trans (cell_of_heap (heap_alloc_new _ _))
      have O3 := hide (show Old w w3 from (Chg.trans (Z := fun n => n = w.heap.size) (Chg.of_old (X := fun n => n = w.heap.size) (Old.trans HO.out (Old.alloc (Old.refl _) _))) (Chg.of_grown G3) (fun _ _ h => h) (fun _ _ h => h)).old (fun n hn => by omega))
      go_wp2_with fail
      go_ret
      exact ⟨rfl, O3.out⟩
    · have hh : had1 ((cols.map Col.name).take i) N = none := by unfold had1; rw [if_neg (fun h => hin (hasKey_iff.1 h))]
      rw [hh] at hlk
      simp only [Option.getD_none] at hlk
      have HNI2 := hide (HNI.out hin)
      clear hh HBAD HNI
      go_upto_region 6 with (at_mapUpdate; refine wpList_plain rfl (fun K hK => ?_); refine step_map_put _ _ _ _ _ rfl _ _ undS Tryz.underlying105 w.heap.size i (had1 ((cols.map Col.name).take i)) rfl (HM.out.old (Old.alloc (Old.refl _) _)) (by unfold maxLen; omega) N hsz (.int .i64 1) rfl rfl ?_; intro w3 K3 G3; refine hK _ _ ?_; clear hK)
      have hl2 := K3.look undS Tryz.underlying105 (hz _) hsz
      have hh2 : upd (had1 ((cols.map Col.name).take i)) N (some (.int .i64 1)) N = some (.int .i64 1) := by unfold upd; rw [if_pos rfl]
      rw [hh2] at hl2
      simp only [Option.getD_some] at hl2
      have y1 : w3.cell? ⟨wr.heap.size, 1, none⟩ = some (.string N) := (World.cell?_of_block (a := ⟨wr.heap.size, 1, none⟩) (G3.block _ (by simp) (by simpa using hbm))).trans (cell_of_heap (heap_alloc_new _ _))
      have O3 := hide (show Old w w3 from (Chg.trans (Z := fun n => n = w.heap.size) (Chg.of_old (X := fun n => n = w.heap.size) (Old.trans HO.out (Old.alloc (Old.refl _) _))) (Chg.of_grown G3) (fun _ _ h => h) (fun _ _ h => h)).old (fun n hn => by omega))
      have M3 := hide (show TMap Tryz.prog 9 w3 w.heap.size (i + 1) (had1 ((cols.map Col.name).take (i + 1))) by rw [HNX.out, ← had1_next]; exact K3)
      clear K3 G3
      cases hz2 : isName N
      · rw [hz2] at CN HNM
        obtain rfl : B = false := by cases B; rfl; exact absurd (HNM.out rfl) (by decide)
        go_wp2_with fail
        refine (CN.out _).mono ?_
        rintro e w4 ⟨rfl, o4⟩
        have O4 := hide (Old.trans O3.out o4)
        clear o4
        go_wp2_with fail
        go_ret
        exact ⟨rfl, O4.out⟩
      · rw [hz2] at CN HKN
        have HK2 := hide (HKN.out rfl HNI2.out)
        go_wp2_with fail
        refine (CN.out _).mono ?_
        rintro e w4 ⟨rfl, o4⟩
        have O4 := hide (Old.trans O3.out o4)
        have M4 := hide (M3.out.old o4)
        clear o4
        go_wp2_with fail
        go_roundw
        case rel => exact ⟨i + 1, by go_num, by omega, HK2, M4, O4⟩
        case measure => simp [intOf]; omega
  · have hli : ¬ (i : Int) < (cols.length : Int) := by omega
    obtain rfl : B = true := HI.out.2 fun j hj => HK.out j (by omega) hj
    go_wp2_with fail
    go_ret
    exact ⟨rfl, HO.out⟩
end Go.Proofs.YthlfljmfggmfdaaGreatDoor
