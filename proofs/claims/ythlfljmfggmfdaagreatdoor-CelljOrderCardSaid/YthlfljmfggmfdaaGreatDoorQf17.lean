/-  -/
import Derived.Test.YthlfljmfggmfdaaGreatDoorQf16
import Derived.Test.YthlfljmfggmfdaaGreatDoorQf13
import Derived.Test.YthlfljmfggmfdaaGreatDoorQf15
import Derived.Test.YthlfljmfggmfdaaGreatDoorQf14
import Derived.Deep.RegionHeld3
import Derived.Deep.RegionWith
import Derived.Test.YthlfljmfggmfdaaGreatDoorProg
import Derived.Shelf.Strings.SlTrimAscii
/-! ###  -/
namespace Go.Proofs.YthlfljmfggmfdaaGreatDoor
open Go.RowKit
theorem SB.valset {w0 a : World} {k : Int} {nl : Bool} {c : Cell} (h : SB w0 k nl c a) (d : Cell) : SB w0 k nl d (((a.setCell ⟨w0.heap.size + 1 + 1 + 1, 0, none⟩ (.bool d.null)).setCell ⟨w0.heap.size + 1 + 1 + 1, 1, none⟩ (.int .i64 d.n)).setCell ⟨w0.heap.size + 1 + 1 + 1, 2, none⟩ (.string d.s)) := by
 have hle : w0.heap.size ≤ w0.heap.size + 1 + 1 + 1 := by omega
 refine ⟨Old.setCell (Old.setCell (Old.setCell h.old hle _) hle _) hle _, ?_, ?_, ?_⟩
 · rw [heap_set_other (by omega), heap_set_other (by omega), heap_set_other (by omega)]; exact h.ty
 · obtain ⟨e, he⟩ := h.res
   refine ⟨e, ?_⟩
   show (World.heap _)[_]? = _
   rw [heap_set_other (by omega), heap_set_other (by omega), heap_set_other (by omega)]
   exact he
 · exact set3_heap h.val _ _ _
theorem SB.alloc {w0 a : World} {k : Int} {nl : Bool} {c : Cell} (h : SB w0 k nl c a) (o : Obj) : SB w0 k nl c (a.alloc o) := h.step (Old.alloc (Old.refl _) o)
theorem said_5 (s key : ByteArray) : saidC 5 ⟨5, key, 0, s⟩ = (unhexL s.data.toList).map fun l => (⟨false, 0, ⟨l.toArray⟩⟩ : Cell) := by simp [saidC]
theorem said_bytes {s key : ByteArray} (h : readOk s.data.toList) : saidC 5 ⟨5, key, 0, s⟩ = some ⟨false, 0, ⟨(unhexP s.data.toList).toArray⟩⟩ := by
 have e := said_5 s key
 rw [e, h.1]
 rfl
theorem said_nobytes {s key : ByteArray} {nl : Bool} (h : ¬ readOk s.data.toList) : (takenC vU 5 nl ⟨5, key, 0, s⟩).isSome = false ∧ ∀ (c c' : Cell), takenC vU 5 nl ⟨5, key, 0, s⟩ = some c' → c = c' := by
 have hn : takenC vU 5 nl ⟨5, key, 0, s⟩ = none := by
  unfold takenC
  rw [said_5]
  cases hu : unhexL s.data.toList with
  | none => rfl
  | some r =>
    have hr : unhexP s.data.toList = r := by
     have := unhexL_inv hu
     have h2 := unhexL_some this.1 this.2
     rw [hu] at h2
     injection h2 with h2
     exact h2.symm
    have hlen : ¬ r.length ≤ 1024 := fun hh => h ⟨by rw [hu, hr], by rw [hr]; exact hh⟩
    have h2 : cellOk vU 5 nl ⟨false, 0, ⟨r.toArray⟩⟩ = false := by
     have h3 := sz_5 ⟨false, 0, ⟨r.toArray⟩⟩
     rw [szB_len, decide_eq_false hlen] at h3
     simp [cellOk, ← h3]
    simp [h2]
 rw [hn]
 simp
theorem xT_cat (s : ByteArray) : (⟨#[120]⟩ : ByteArray) ++ s = xT s.data.toList := by
 apply bytesD_ext
 simp [xT]
set_option maxRecDepth 100000 in
set_option maxHeartbeats 4000000 in
theorem taken_bytes (nl : Bool) (key s : ByteArray) (z : Int) (hs : s.size ≤ 1073741824) (w : World) (hT : Tabs w) : Calls Tryz.prog 45 #[Ty 5 nl, Nv ⟨5, key, 0, s⟩ z] w (TakenP w 5 nl ⟨5, key, 0, s⟩) := by
 have CR := hide (fun (w' : World) (o : Old w w') => read5_run s.data.toList (by rw [Array.length_toList]; exact hs) w' (hT.old o))
 have hcc := xT_cat s
 have hsz : ¬ 9223372036854775807 < (⟨#[120]⟩ : ByteArray).size + s.size := by
  show ¬ 9223372036854775807 < 1 + s.size
  omega
 have hsz2 : ¬ 9223372036854775807 < 1 + s.size := by omega
 obtain ⟨X, hX⟩ : ∃ X, xT s.data.toList = X := ⟨_, rfl⟩
 rw [hX] at CR hcc
 have HT := hide hT
 clear hT hX
 unfold Ret at CR
 unfold Ty at *
 unfold Nv
 by_cases hr : readOk s.data.toList
 · obtain ⟨t1, t2⟩ := taken_of (nl := nl) (said_bytes (key := key) hr)
   have T1 := hide t1
   have T2 := hide t2
   unfold readV at CR
   rw [if_pos hr] at CR
   obtain ⟨P, hP⟩ : ∃ P : ByteArray, ⟨(unhexP s.data.toList).toArray⟩ = P := ⟨_, rfl⟩
   rw [hP] at CR T1 T2
   have CK := hide (fun (w' : World) (o : Old w w') => ccheck_run 5 nl ⟨false, 0, P⟩ w' (HT.out.old o))
   have HE := err_ok (k := 5) (nl := nl) (c := ⟨false, 0, P⟩) (by decide)
   generalize cellErr vU 5 nl ⟨false, 0, P⟩ = E at *
   generalize cellOk vU 5 nl ⟨false, 0, P⟩ = B at *
   clear t1 t2 hP hr
   unfold Ret Cl Ty at CK
   unfold Cl at CR
   simp only at CK CR
   go_enter Tryz.func45, Tryz.ntmps45
   go_wp2_with fail
   have S0 := hide (SB.start w 5 nl (.cells #[.int .i64 5, .string key, .int .i64 0, .string s, .int .i64 z] 36) ⟨false, 0, s⟩)
   obtain ⟨W, hW⟩ : ∃ W, W = ((((w.alloc (.cells #[.int .i64 5, .bool nl] 54)).alloc (.cells #[.int .i64 5, .string key, .int .i64 0, .string s, .int .i64 z] 36)).alloc (.cells #[.bool false, .int .i64 0, .string ⟨#[]⟩] 38)).alloc (.cells #[.bool false, .int .i64 0, .string s] 38)) := ⟨_, rfl⟩
   rw [← hW] at S0 ⊢
   clear hW
   refine (CR.out _ S0.out.old).mono ?_
   rintro e w5 ⟨rfl, o5⟩
   have S5 := hide (S0.out.step o5)
   clear o5 S0 CR
   go_upto_region 15 with fail
   have C6 := hide (show CBox (w5.alloc (.cells #[.bool false, .int .i64 0, .string P] 38)) w5.heap.size ⟨false, 0, P⟩ from heap_alloc_new _ _)
   have S6 := hide (S5.out.alloc (.cells #[.bool false, .int .i64 0, .string P] 38))
   obtain ⟨w6, hw6⟩ : ∃ w6, w6 = w5.alloc (.cells #[.bool false, .int .i64 0, .string P] 38) := ⟨_, rfl⟩
   rw [← hw6] at S6 C6 ⊢
   clear hw6 S5
   obtain ⟨x0, x1, x2⟩ := S6.out.val.cells
   have fz := S6.out.val.free
   obtain ⟨c0, c1, c2⟩ := C6.out.cells
   go_wp2_with fail
   have S0 := hide (S6.out.valset ⟨false, 0, P⟩)
   obtain ⟨W, hW⟩ : ∃ W, W = (((w6.setCell ⟨w.heap.size + 1 + 1 + 1, 0, none⟩ (.bool false)).setCell ⟨w.heap.size + 1 + 1 + 1, 1, none⟩ (.int .i64 0)).setCell ⟨w.heap.size + 1 + 1 + 1, 2, none⟩ (.string P)) := ⟨_, rfl⟩
   rw [← hW] at S0 ⊢
   clear hW x0 x1 x2 fz c0 c1 c2
   have h0 := S0.out
   have y0 : ∀ w', SB w 5 nl ⟨false, 0, P⟩ w' → w'.cell? ⟨w.heap.size, 0, none⟩ = some (.int .i64 5) := fun w' q => (cell_of_heap q.ty).trans rfl
   have y1 : ∀ w', SB w 5 nl ⟨false, 0, P⟩ w' → w'.cell? ⟨w.heap.size, 1, none⟩ = some (.bool nl) := fun w' q => (cell_of_heap q.ty).trans rfl
   have y2 : ∀ w', SB w 5 nl ⟨false, 0, P⟩ w' → w'.cell? ⟨w.heap.size + 1 + 1 + 1, 0, none⟩ = some (.bool false) := fun w' q => q.val.cells.1
   have y3 : ∀ w', SB w 5 nl ⟨false, 0, P⟩ w' → w'.cell? ⟨w.heap.size + 1 + 1 + 1, 1, none⟩ = some (.int .i64 0) := fun w' q => q.val.cells.2.1
   have y4 : ∀ w', SB w 5 nl ⟨false, 0, P⟩ w' → w'.cell? ⟨w.heap.size + 1 + 1 + 1, 2, none⟩ = some (.string P) := fun w' q => q.val.cells.2.2
   have yf : ∀ w' i, SB w 5 nl ⟨false, 0, P⟩ w' → w'.frozen? ⟨w.heap.size + 1 + 1, i, none⟩ = false := fun w' i q => q.free i
   obtain ⟨f0, z0⟩ : ∃ f : World → Value, ∀ w', SB w 5 nl ⟨false, 0, P⟩ w' → w'.cell? ⟨w.heap.size + 1 + 1, 0, none⟩ = some (f w') := ⟨_, fun w' q => q.there 0 (by decide)⟩
   obtain ⟨f1, z1⟩ : ∃ f : World → Value, ∀ w', SB w 5 nl ⟨false, 0, P⟩ w' → w'.cell? ⟨w.heap.size + 1 + 1, 1, none⟩ = some (f w') := ⟨_, fun w' q => q.there 1 (by decide)⟩
   obtain ⟨f2, z2⟩ : ∃ f : World → Value, ∀ w', SB w 5 nl ⟨false, 0, P⟩ w' → w'.cell? ⟨w.heap.size + 1 + 1, 2, none⟩ = some (f w') := ⟨_, fun w' q => q.there 2 (by decide)⟩
   have hd := hide (Old.drew h0.old)
   go_region_held3 (fun w' => SB w 5 nl ⟨false, 0, P⟩ w')
    (first | assumption | (exact SB.drew h0) | (exact SB.step (SB.drew h0) o9) | (exact SB.store (by assumption) ⟨false, 0, P⟩) | (fail "none"))
    (first
      | (go_at_call 74; (with_reducible refine (CK.out _ hd.out).mono ?_); rintro e w9 ⟨rfl, o9⟩)
      | (fail "none"))
   all_goals
    have S9 := hide (SB.step (SB.drew h0) o9)
    have O6 := hide (S9.out.store ⟨false, 0, P⟩).old
    obtain ⟨d, hdd⟩ := S9.out.res
    clear y0 y1 y2 y3 y4 yf z0 z1 z2
    go_wp2_with fail
    refine bodyPost_ret (results_box2 rfl _ _ (w.heap.size + 1 + 1) _ _ _ rfl (set3_heap hdd _ _ _)) rfl ?_
    exact ⟨_, by rw [T1.out]; rfl, T2.out, O6.out⟩
 · obtain ⟨t1, t2⟩ := said_nobytes (key := key) (nl := nl) hr
   have T1 := hide t1
   have T2 := hide t2
   unfold readV at CR
   rw [if_neg hr] at CR
   clear t1 t2 hr
   unfold Cl at CR
   simp only at CR
   go_enter Tryz.func45, Tryz.ntmps45
   go_wp2_with fail
   have S0 := hide (SB.start w 5 nl (.cells #[.int .i64 5, .string key, .int .i64 0, .string s, .int .i64 z] 36) ⟨false, 0, s⟩)
   obtain ⟨W, hW⟩ : ∃ W, W = ((((w.alloc (.cells #[.int .i64 5, .bool nl] 54)).alloc (.cells #[.int .i64 5, .string key, .int .i64 0, .string s, .int .i64 z] 36)).alloc (.cells #[.bool false, .int .i64 0, .string ⟨#[]⟩] 38)).alloc (.cells #[.bool false, .int .i64 0, .string s] 38)) := ⟨_, rfl⟩
   rw [← hW] at S0 ⊢
   clear hW
   refine (CR.out _ S0.out.old).mono ?_
   rintro e w5 ⟨rfl, o5⟩
   have S5 := hide (S0.out.step o5)
   clear o5 S0 CR
   go_upto_region 15 with fail
   have C6 := hide (show CBox (w5.alloc (.cells #[.bool false, .int .i64 0, .string ⟨#[]⟩] 38)) w5.heap.size ⟨false, 0, ⟨#[]⟩⟩ from heap_alloc_new _ _)
   have S6 := hide (S5.out.alloc (.cells #[.bool false, .int .i64 0, .string ⟨#[]⟩] 38))
   obtain ⟨w6, hw6⟩ : ∃ w6, w6 = w5.alloc (.cells #[.bool false, .int .i64 0, .string ⟨#[]⟩] 38) := ⟨_, rfl⟩
   rw [← hw6] at S6 C6 ⊢
   clear hw6 S5
   obtain ⟨x0, x1, x2⟩ := S6.out.val.cells
   have fz := S6.out.val.free
   obtain ⟨c0, c1, c2⟩ := C6.out.cells
   go_wp2_with fail
   have S0 := hide (S6.out.valset ⟨false, 0, ⟨#[]⟩⟩)
   obtain ⟨W, hW⟩ : ∃ W, W = (((w6.setCell ⟨w.heap.size + 1 + 1 + 1, 0, none⟩ (.bool false)).setCell ⟨w.heap.size + 1 + 1 + 1, 1, none⟩ (.int .i64 0)).setCell ⟨w.heap.size + 1 + 1 + 1, 2, none⟩ (.string ⟨#[]⟩)) := ⟨_, rfl⟩
   rw [← hW] at S0 ⊢
   clear hW x0 x1 x2 fz c0 c1 c2
   have h0 := S0.out
   have y0 : ∀ w', SB w 5 nl ⟨false, 0, ⟨#[]⟩⟩ w' → w'.cell? ⟨w.heap.size, 0, none⟩ = some (.int .i64 5) := fun w' q => (cell_of_heap q.ty).trans rfl
   have y1 : ∀ w', SB w 5 nl ⟨false, 0, ⟨#[]⟩⟩ w' → w'.cell? ⟨w.heap.size, 1, none⟩ = some (.bool nl) := fun w' q => (cell_of_heap q.ty).trans rfl
   have y2 : ∀ w', SB w 5 nl ⟨false, 0, ⟨#[]⟩⟩ w' → w'.cell? ⟨w.heap.size + 1 + 1 + 1, 0, none⟩ = some (.bool false) := fun w' q => q.val.cells.1
   have y3 : ∀ w', SB w 5 nl ⟨false, 0, ⟨#[]⟩⟩ w' → w'.cell? ⟨w.heap.size + 1 + 1 + 1, 1, none⟩ = some (.int .i64 0) := fun w' q => q.val.cells.2.1
   have y4 : ∀ w', SB w 5 nl ⟨false, 0, ⟨#[]⟩⟩ w' → w'.cell? ⟨w.heap.size + 1 + 1 + 1, 2, none⟩ = some (.string ⟨#[]⟩) := fun w' q => q.val.cells.2.2
   have yf : ∀ w' i, SB w 5 nl ⟨false, 0, ⟨#[]⟩⟩ w' → w'.frozen? ⟨w.heap.size + 1 + 1, i, none⟩ = false := fun w' i q => q.free i
   obtain ⟨f0, z0⟩ : ∃ f : World → Value, ∀ w', SB w 5 nl ⟨false, 0, ⟨#[]⟩⟩ w' → w'.cell? ⟨w.heap.size + 1 + 1, 0, none⟩ = some (f w') := ⟨_, fun w' q => q.there 0 (by decide)⟩
   obtain ⟨f1, z1⟩ : ∃ f : World → Value, ∀ w', SB w 5 nl ⟨false, 0, ⟨#[]⟩⟩ w' → w'.cell? ⟨w.heap.size + 1 + 1, 1, none⟩ = some (f w') := ⟨_, fun w' q => q.there 1 (by decide)⟩
   obtain ⟨f2, z2⟩ : ∃ f : World → Value, ∀ w', SB w 5 nl ⟨false, 0, ⟨#[]⟩⟩ w' → w'.cell? ⟨w.heap.size + 1 + 1, 2, none⟩ = some (f w') := ⟨_, fun w' q => q.there 2 (by decide)⟩
   obtain ⟨x0, x1, x2⟩ := h0.val.cells
   obtain ⟨d, hdd⟩ := h0.res
   obtain ⟨r0, r1, r2⟩ := hdd.cells
   have fz := hdd.free
   have O6 := hide (h0.store ⟨false, 0, ⟨#[]⟩⟩).old
   have HS := hide (set3_heap hdd (.bool false) (.int .i64 0) (.string ⟨#[]⟩))
   clear y0 y1 y2 y3 y4 yf z0 z1 z2
   go_region
   go_wp2_with fail
   refine bodyPost_ret (results_box2 rfl _ _ (w.heap.size + 1 + 1) _ _ _ rfl HS.out) rfl ?_
   exact ⟨⟨false, 0, ⟨#[]⟩⟩, by rw [T1.out]; rfl, T2.out _, Old.drew O6.out⟩
def HdOk (h : Hd) : Prop := leafOk vU h ∨ ((h.kind = 6 ∨ h.kind = 7) ∧ h.n = 0 ∧ h.s = none_)
theorem taken_run (k : Int) (nl : Bool) (h : Hd) (z : Int) (hk : mayK k = true) (ho : HdOk h) (hs : h.s.size ≤ 1073741824) (w : World) (hT : Tabs w) : Calls Tryz.prog 45 #[Ty k nl, Nv h z] w (TakenP w k nl h) := by
 obtain ⟨kind, key, n, s⟩ := h
 simp only at hs
 have h5 : k = 1 ∨ k = 2 ∨ k = 3 ∨ k = 4 ∨ k = 5 := by simp [mayK] at hk; omega
 rcases ho with (⟨h1 | h1 | h1, h2, h3⟩ | ⟨h1, h2⟩ | ⟨h1, h2, h3⟩) | ⟨h1 | h1, h2, h3⟩
 all_goals simp only at h1 h2
 · subst h1
   exact taken_null k nl key s n z hk w hT
 · simp only at h3
   subst h1 h2 h3
   by_cases e : k = 1
   · subst e
     exact taken_false1 nl key z w hT
   · exact taken_falsen k nl key z e w
 · simp only at h3
   subst h1 h2 h3
   by_cases e : k = 1
   · subst e
     exact taken_true1 nl key z w hT
   · exact taken_truen k nl key z e w
 · subst h1 h2
   by_cases e : k = 2
   · subst e
     exact taken_num2 nl key n z w hT
   · by_cases e3 : k = 3
     · subst e3
       exact taken_num3 nl key n z w hT
     · exact taken_numn k nl key n z e e3 w
 · subst h1 h2
   by_cases e : k = 4
   · subst e
     exact taken_str4 nl key s z w hT
   · by_cases e5 : k = 5
     · subst e5
       exact taken_bytes nl key s z hs w hT
     · exact taken_strn k nl key s z e e5 w
 · simp only at h3
   subst h1 h2 h3
   exact taken_6 k nl key z w
 · simp only at h3
   subst h1 h2 h3
   exact taken_7 k nl key z w
end Go.Proofs.YthlfljmfggmfdaaGreatDoor

/-! ###  -/
namespace Go.Proofs.YthlfljmfggmfdaaGreatDoor
open Go.RowKit
end Go.Proofs.YthlfljmfggmfdaaGreatDoor

/-! ###  -/
namespace Go.Proofs.YthlfljmfggmfdaaGreatDoor
open Go.RowKit
def errL (cols : List Col) (r : List Cell) : List Int := (cols.zip r).map fun x => cellErr vU x.1.kind x.1.null x.2
theorem errL_len {cols : List Col} {r : List Cell} (h : cols.length = r.length) : (errL cols r).length = r.length := by simp [errL, h]
theorem errL_at {cols : List Col} {r : List Cell} {k : Nat} (h1 : k < cols.length) (h2 : k < r.length) (h3 : k < (errL cols r).length) : (errL cols r)[k] = cellErr vU cols[k].kind cols[k].null r[k] := by simp [errL]
theorem first_step {l : List Int} {k : Nat} (h : k < l.length) (hf : firstErr l = firstErr (l.drop k)) : (l[k] = 0 → firstErr l = firstErr (l.drop (k + 1))) ∧ (l[k] ≠ 0 → firstErr l = l[k]) := by
 rw [List.drop_eq_getElem_cons h, firstErr] at hf
 refine ⟨fun e => ?_, fun e => ?_⟩
 · rw [hf, if_pos e]
 · rw [hf, if_neg e]
theorem first_end {l : List Int} {k : Nat} (h : l.length ≤ k) (hf : firstErr l = firstErr (l.drop k)) : firstErr l = 0 := by
 rw [hf, List.drop_of_length_le h]
 rfl
theorem rowErr_same {cols : List Col} {r : List Cell} (h : cols.length = r.length) : rowErr vU cols r = firstErr (errL cols r) := by
 unfold rowErr errL
 rw [if_pos h]
theorem rowErr_unlike {cols : List Col} {r : List Cell} (h : ¬ cols.length = r.length) : rowErr vU cols r = 100 := by
 unfold rowErr
 rw [if_neg h]
set_option maxRecDepth 100000 in
set_option maxHeartbeats 1000000 in
theorem rowck_run (i : Nat) (c : Cell) (x : Col) (p n b off cap : Nat) (hi : i < n) (w : World) (hp : w.cell? ⟨p, 0, none⟩ = some (.slice (some ⟨b, off, none⟩) n cap)) (hc : ColAt w b (off + i * 7) x) (hT : Tabs w) :
 Calls Tryz.prog 73 #[.int .i64 (i : Int), Cl c, .pointer (some ⟨p, 0, none⟩)] w (Ret (.int .i64 (cellErr vU x.kind x.null c)) w) := by
 have HT := hide hT
 have CK := hide (fun (q : Later (w.alloc (.cells #[.bool c.null, .int .i64 c.n, .string c.s] 38))) => ccheck_run x.kind x.null c q.world ((HT.out.old (Old.alloc (Old.refl _) _)).old q.old))
 unfold Ret at *
 have f0 : ∀ q : Later (w.alloc (.cells #[.bool c.null, .int .i64 c.n, .string c.s] 38)), q.world.cell? ⟨p, 0, none⟩ = some (.slice (some ⟨b, off, none⟩) n cap) := fun q => q.old.cell (Old.cell (Old.alloc (Old.refl _) _) hp)
 have f1 : ∀ q : Later (w.alloc (.cells #[.bool c.null, .int .i64 c.n, .string c.s] 38)), q.world.cell? ⟨b, off + i * 7 + 2, none⟩ = some (.int .i64 x.kind) := fun q => q.old.cell (Old.cell (Old.alloc (Old.refl _) _) hc.2.2.1)
 have f2 : ∀ q : Later (w.alloc (.cells #[.bool c.null, .int .i64 c.n, .string c.s] 38)), q.world.cell? ⟨b, off + i * 7 + 2 + 1, none⟩ = some (.bool x.null) := fun q => q.old.cell (Old.cell (Old.alloc (Old.refl _) _) hc.2.2.2.1)
 have f3 : ∀ q : Later (w.alloc (.cells #[.bool c.null, .int .i64 c.n, .string c.s] 38)), q.world.cell? ⟨w.heap.size, 0, none⟩ = some (.bool c.null) := fun q => q.old.cell (cell_of_heap (heap_alloc_new _ _))
 have f4 : ∀ q : Later (w.alloc (.cells #[.bool c.null, .int .i64 c.n, .string c.s] 38)), q.world.cell? ⟨w.heap.size, 1, none⟩ = some (.int .i64 c.n) := fun q => q.old.cell (cell_of_heap (heap_alloc_new _ _))
 have f5 : ∀ q : Later (w.alloc (.cells #[.bool c.null, .int .i64 c.n, .string c.s] 38)), q.world.cell? ⟨w.heap.size, 2, none⟩ = some (.string c.s) := fun q => q.old.cell (cell_of_heap (heap_alloc_new _ _))
 have hii : (i : Int) < (n : Int) := by omega
 clear hp hc
 generalize cellErr vU x.kind x.null c = E at CK
 go_enter Tryz.func73, Tryz.ntmps73
 go_wp2_with fail
 refine region_later (by kernel_rfl) (by kernel_rfl) ?_
 repeat (go_big_quiet_step (exact Later.call (CK.out _)))
 refine wpQuiet_nil ?_
 rintro wq ⟨⟨_, hwq⟩, rfl⟩
 go_wp2_with fail
 go_ret
 exact ⟨rfl, Old.trans (Old.alloc (Old.refl _) _) hwq⟩
set_option maxRecDepth 100000 in
set_option maxHeartbeats 2000000 in
theorem first_run (cv v : Value) (cols : List Col) (r : List Cell) (hl : cols.length = r.length) (p : Nat) (w : World) (hp : w.cell? ⟨p, 0, none⟩ = some cv) (hc : ColsIs w cv cols) (hr : RowIs w v r) (hT : Tabs w) :
 Calls Tryz.prog 72 #[v, .func (.func 73) #[] #[.pointer (some ⟨p, 0, none⟩)]] w (Ret (.int .i64 (firstErr (errL cols r))) w) := by
 have HT := hide hT
 obtain ⟨A, ca, rfl, hla, hma, hr⟩ := hr.row
 obtain ⟨B, cb, rfl, hlb, hmb, hc⟩ := cols_form hc
 unfold maxLen at hma hmb
 have HR := hide hr
 have HC := hide hc
 have HP := hide hp
 have HL := hide hl
 clear hr hc hp hT hl
 unfold Ret
 go_enter Tryz.func72, Tryz.ntmps72
 go_wp2_with fail
 go_loopw [10] (fun i wr => ∃ k : Nat, i = .int .i64 k ∧ k ≤ r.length ∧ Hid (firstErr (errL cols r) = firstErr ((errL cols r).drop k)) ∧ Hid (Old w wr)) (fun i _ => r.length - (intOf i).toNat)
 case atStart => exact ⟨0, rfl, by omega, hide rfl, hide (Old.refl _)⟩
 case round =>
  obtain ⟨k, rfl, hk, HF, HO⟩ := hrel
  by_cases hlt : k < r.length
  · have hkc : k < cols.length := by rw [HL.out]; exact hlt
    obtain ⟨b1, o1, rfl, hc1⟩ := HR.out.resolve_left (by omega)
    obtain ⟨b2, o2, rfl, hc2⟩ := HC.out.resolve_left (by omega)
    obtain ⟨x0, x1, x2⟩ := hc1 k hlt
    have hcol := hide ((hc2 k hkc).old HO.out)
    have hx0 := Old.cell HO.out x0
    have hx1 := Old.cell HO.out x1
    have hx2 := Old.cell HO.out x2
    have hpp := hide (Old.cell HO.out HP.out)
    have hkl : k < (errL cols r).length := by rw [errL_len HL.out]; exact hlt
    have hE := hide (first_step hkl HF.out)
    rw [errL_at hkc hlt hkl] at hE
    have CK := hide (fun (w' : World) (o : Old wr w') => rowck_run k r[k] cols[k] p cols.length b2 o2 cb hkc w' (o.cell hpp.out) (hcol.out.old o) (HT.out.old (Old.trans HO.out o)))
    generalize r[k] = c at *
    generalize cols[k] = x at *
    generalize cellErr vU x.kind x.null c = E at *
    have hii : (k : Int) < (r.length : Int) := by omega
    clear hc1 hc2 x0 x1 x2 hkl HF hcol hpp
    unfold Ret at CK
    by_cases h0 : E = 0
    · subst h0
      have HF := hide (hE.out.1 rfl)
      clear hE
      go_wp2_with fail
      refine (CK.out _ (Old.alloc (Old.refl _) _)).mono ?_
      rintro e w1 ⟨rfl, q1⟩
      have O1 := hide (Old.trans HO.out (Old.trans (Old.alloc (Old.refl _) _) q1))
      clear q1 CK
      go_wp2_with fail
      go_roundw
      case rel => exact ⟨k + 1, by go_num, by omega, HF, O1⟩
      case measure => simp [intOf]; omega
    · have HF := hide (hE.out.2 h0)
      have h1 : (E != 0) = true := by simp [h0]
      clear hE
      go_wp2_with fail
      refine (CK.out _ (Old.alloc (Old.refl _) _)).mono ?_
      rintro e w1 ⟨rfl, q1⟩
      have O1 := hide (Old.trans HO.out (Old.trans (Old.alloc (Old.refl _) _) q1))
      clear q1 CK
      go_wp2_with fail
      go_ret
      exact ⟨ret_int HF.out.symm, O1.out⟩
  · have hii : ¬ (k : Int) < (r.length : Int) := by omega
    have HZ := hide (first_end (by rw [errL_len HL.out]; omega) HF.out)
    clear HF
    go_wp2_with fail
    go_ret
    exact ⟨ret_int HZ.out.symm, HO.out⟩
set_option maxRecDepth 100000 in
set_option maxHeartbeats 1000000 in
theorem rowCheck_run (cv v : Value) (cols : List Col) (r : List Cell) (w : World) (hc : ColsIs w cv cols) (hr : RowIs w v r) (hT : Tabs w) :
 Calls Tryz.prog 33 #[cv, v] w (Ret (.int .i64 (rowErr vU cols r)) w) := by
 have HC := hide hc
 have HR := hide hr
 have HT := hide hT
 obtain ⟨A, ca, rfl, _, _, _⟩ := hr.row
 obtain ⟨B, cb, rfl, _, _, _⟩ := cols_form hc
 clear hc hr hT
 by_cases hl : cols.length = r.length
 · have hlb : ((cols.length : Int) != (r.length : Int)) = false := by simp [hl]
   have hp := hide (show (w.alloc (.cells #[.slice B cols.length cb] 22)).cell? ⟨w.heap.size, 0, none⟩ = some (.slice B cols.length cb) from cell_of_heap (heap_alloc_new _ _))
   have CF := hide (first_run _ _ cols r hl w.heap.size (w.alloc (.cells #[.slice B cols.length cb] 22)) hp.out (HC.out.old (Old.alloc (Old.refl _) _)) (HR.out.old (Old.alloc (Old.refl _) _)) (HT.out.old (Old.alloc (Old.refl _) _)))
   rw [rowErr_same hl]
   clear hl hp
   unfold Ret at *
   go_enter Tryz.func33, Tryz.ntmps33
   go_wp2_with fail
   refine CF.out.mono ?_
   rintro e w1 ⟨rfl, o1⟩
   have O1 := hide (Old.trans (Old.alloc (Old.refl w) _) o1)
   clear o1
   go_wp2_with fail
   go_ret
   exact ⟨rfl, O1.out⟩
 · have hlb : ((cols.length : Int) != (r.length : Int)) = true := by simp; omega
   rw [rowErr_unlike hl]
   unfold Ret
   go_enter Tryz.func33, Tryz.ntmps33
   go_wp2_with fail
   go_ret
   exact ⟨rfl, Old.alloc (Old.refl _) _⟩
end Go.Proofs.YthlfljmfggmfdaaGreatDoor

/-! ###  -/
namespace Go.Proofs.YthlfljmfggmfdaaGreatDoor
open Go.RowKit
theorem part_next {cols : List Col} {r : List Cell} {k : Nat} (h1 : k < cols.length) (h2 : k < r.length) : (partsC cols r).take (k + 1) = (partsC cols r).take k ++ [leafC cols[k].kind r[k]] := by
 have h : k < (partsC cols r).length := by simp [partsC]; omega
 rw [List.take_succ_eq_append_getElem h, partsC_at h1 h2]
theorem name_next {cols : List Col} {k : Nat} (h1 : k < cols.length) : (cols.map Col.name).take (k + 1) = (cols.map Col.name).take k ++ [cols[k].name] := by
 have h : k < (cols.map Col.name).length := by simpa using h1
 rw [List.take_succ_eq_append_getElem h, List.getElem_map]
theorem names_sizes {cols : List Col} (h : namedB cols = true) : ∀ s ∈ cols.map Col.name, s.size ≤ maxLen := by
 intro s hs
 obtain ⟨c, hc, rfl⟩ := List.mem_map.1 hs
 have := name_size (names_ok h c hc)
 unfold maxLen
 omega
end Go.Proofs.YthlfljmfggmfdaaGreatDoor

/-! ###  -/
namespace Go.Proofs.YthlfljmfggmfdaaGreatDoor
open Go.RowKit
theorem kid_drop {t : List Nd} {h : Hd} {l1 l2 : List J} {j : J} (e : t = J.flat (.mk h (l1 ++ j :: l2))) : t.drop (0 + 1 + (J.flats l1).length) = j.flat ++ J.flats l2 := by
 have hd : t.drop 0 = J.flat (.mk h (l1 ++ j :: l2)) ++ [] := by rw [List.drop_zero, List.append_nil]; exact e
 have := drop_flat hd
 rw [flats_cons, List.append_assoc, List.append_nil] at this
 exact this
theorem root_at {t : List Nd} {h : Hd} {l : List J} (e : t = J.flat (.mk h l)) : t[0]? = some ⟨h.kind, h.key, h.n, h.s, (J.flats l).length + 1⟩ := by
 rw [e, flat_mk]
 rfl
end Go.Proofs.YthlfljmfggmfdaaGreatDoor

/-! ###  -/
namespace Go.Proofs.YthlfljmfggmfdaaGreatDoor
open Go.RowKit
theorem nodes_cells {w : World} {A : Option Addr} {n c : Nat} {l : List Nd} (h : NodesIs w (.slice A n c) l) {i : Nat} {x : Nd} (hx : l[i]? = some x) : ∃ b off, A = some ⟨b, off, none⟩ ∧ w.cell? ⟨b, off + i * 5, none⟩ = some (.int .i64 x.kind) ∧ w.cell? ⟨b, off + i * 5 + 1, none⟩ = some (.string x.key) ∧
 w.cell? ⟨b, off + i * 5 + 2, none⟩ = some (.int .i64 x.n) ∧ w.cell? ⟨b, off + i * 5 + 3, none⟩ = some (.string x.s) ∧ w.cell? ⟨b, off + i * 5 + 4, none⟩ = some (.int .i64 x.size) := by
 obtain ⟨hi, hx⟩ := List.getElem?_eq_some_iff.1 hx
 obtain ⟨A', cap, he, h1, h2, h3⟩ := h.nodes
 injection he with e1 e2 e3
 subst e1 e2 e3
 obtain ⟨b, off, rfl, hc⟩ := h3.resolve_left (by omega)
 have := hc i hi
 rw [hx] at this
 exact ⟨b, off, rfl, this⟩
theorem texts_lit (w : World) (l : List ByteArray) (n : Nat) (h : w.heap.size = n) (hl : l.length ≤ 1048576 := by decide) : TextsIs (w.alloc (.cells (l.map Value.string).toArray 9)) (.slice (some ⟨n, 0, none⟩) l.length l.length) l := by
 refine ⟨_, _, rfl, Nat.le_refl _, by unfold maxLen; omega, fun _ => ⟨n, 0, rfl, fun j u hu => ?_⟩⟩
 rw [Nat.zero_add, cell_of_heap (heap_new _ _ _ h)]
 simpa using hu
theorem PartsIs.nil_ (w : World) : PartsIs w (.slice none 0 0) [] := ⟨[], rfl, Sl.nil_ w, fun i hi => absurd hi (by simp)⟩
end Go.Proofs.YthlfljmfggmfdaaGreatDoor

/-! ###  -/
namespace Go.Proofs.YthlfljmfggmfdaaGreatDoor
open Go.RowKit
def NdFit (t : List Nd) : Prop := ∀ x ∈ t, (-9223372036854775808 ≤ x.n ∧ x.n ≤ 9223372036854775807) ∧ x.s.size ≤ 1073741824
theorem flats_has : ∀ {l : List J} {j : J}, j ∈ l → (⟨j.hd.kind, j.hd.key, j.hd.n, j.hd.s, j.flat.length⟩ : Nd) ∈ J.flats l
 | [], _, h => by cases h
 | i :: l, j, h => by
   rw [J.flats, List.mem_append]
   rcases List.mem_cons.1 h with rfl | h
   · left
     cases j with
     | mk h k => simp [J.flat, J.hd]
   · exact .inr (flats_has h)
theorem kid_fit {t : List Nd} {h : Hd} {l : List J} (hf : NdFit t) (hm : May t (.mk h l)) {j : J} (hj : j ∈ l) : (-9223372036854775808 ≤ j.hd.n ∧ j.hd.n ≤ 9223372036854775807) ∧ j.hd.s.size ≤ 1073741824 :=
 hf ⟨j.hd.kind, j.hd.key, j.hd.n, j.hd.s, j.flat.length⟩ (by rw [hm.1.2.2, flat_mk]; exact List.mem_cons_of_mem _ (flats_has hj))
theorem oks_memR {V : ByteArray → Bool} : ∀ {l : List J} {j : J}, J.Oks V l → j ∈ l → J.Ok V j
 | i :: l, j, h, hj => by
   rw [J.Oks] at h
   rcases List.mem_cons.1 hj with rfl | hj
   · exact h.1
   · exact oks_memR h.2 hj
theorem ok_hd {j : J} (h : J.Ok vU j) : HdOk j.hd := by
 obtain ⟨hd, l⟩ := j
 rw [J.Ok] at h
 rcases h with ⟨h, _⟩ | ⟨h6, h, _⟩ | ⟨h7, h, _⟩
 · exact .inl h
 · exact .inr ⟨.inl h6, h⟩
 · exact .inr ⟨.inr h7, h⟩
theorem kid_hd {t : List Nd} {h : Hd} {l : List J} (hm : May t (.mk h l)) {j : J} (hj : j ∈ l) : HdOk j.hd := by
 have hok := hm.1.1
 rw [J.Ok] at hok
 rcases hok with ⟨_, h2⟩ | ⟨_, _, h2, _⟩ | ⟨_, _, h2, _⟩
 · rw [h2] at hj; cases hj
 · exact ok_hd (oks_memR h2 hj)
 · exact ok_hd (oks_memR h2 hj)
theorem find_mem {l : List J} {k : ByteArray} {j : J} (h : findM l k = some j) : j ∈ l := List.mem_of_find?_eq_some h
abbrev CellsOwn (base : Nat) (w : World) (v : Value) (r : List Cell) : Prop := w.ownsRow base 38 3 v r.length (rowVals r)
abbrev CellsT (lo : Nat) (w : World) (v : Value) (r : List Cell) : Prop := SlT 38 lo w v r.length (rowVals r)
def NewRowE (w0 : World) (r : List Cell) (n : Int) (e : Ending) (w' : World) : Prop := ∃ v, e = .returned (.tuple #[v, .int .i64 n]) ∧ CellsT w0.heap.size w' v r ∧ Old w0 w'
structure RowRest (cols : List Col) (l : List J) (out : List Cell) (er : Int) : Prop where
 miss : ∀ i, (h : i < cols.length) → findM l cols[i].name = none → out = [] ∧ er = 200
 bad : (∀ i, (h : i < cols.length) → findM l cols[i].name ≠ none) → takenAll cols l = none → out = [] ∧ er = 90
 ok : ∀ r, (∀ i, (h : i < cols.length) → findM l cols[i].name ≠ none) → takenAll cols l = some r → out = r ∧ er = 0
theorem all_at {cols : List Col} {P : Col → Prop} (h : ∀ i, (h : i < cols.length) → P cols[i]) : ∀ c ∈ cols, P c := by
 intro c hc
 obtain ⟨i, hi, rfl⟩ := List.mem_iff_getElem.1 hc
 exact h i hi
theorem RowRest.of {cols : List Col} {h : Hd} {l : List J} {out : List Cell} {er : Int} (h7 : h.kind = 7) (hl : l.length = cols.length)
 (hc : ((h.kind ≠ 7 ∨ l.length ≠ cols.length ∨ ∃ c ∈ cols, findM l c.name = none) ∧ out = [] ∧ er = 200) ∨ (h.kind = 7 ∧ l.length = cols.length ∧ (∀ c ∈ cols, findM l c.name ≠ none) ∧ ((takenAll cols l = none ∧ out = [] ∧ er = 90) ∨ (takenAll cols l = some out ∧ er = 0)))) : RowRest cols l out er := by
 rcases hc with ⟨h1 | h1 | ⟨c, hc, h1⟩, h2, h3⟩ | ⟨_, _, h1, h2⟩
 · exact absurd h7 h1
 · exact absurd hl h1
 · refine ⟨fun i hi _ => ⟨h2, h3⟩, fun hh _ => ?_, fun r hh _ => ?_⟩
   · exact absurd h1 (all_at (P := fun c => findM l c.name ≠ none) hh c hc)
   · exact absurd h1 (all_at (P := fun c => findM l c.name ≠ none) hh c hc)
 · refine ⟨fun i hi hn => absurd hn (h1 _ (List.getElem_mem hi)), fun _ hn => ?_, fun r _ hs => ?_⟩
   · rcases h2 with ⟨_, h⟩ | ⟨h, _⟩
     · exact h
     · rw [hn] at h; cases h
   · rcases h2 with ⟨h, _⟩ | ⟨h, h0⟩
     · rw [hs] at h; cases h
     · rw [hs] at h; injection h with h; exact ⟨h.symm, h0⟩
end Go.Proofs.YthlfljmfggmfdaaGreatDoor

/-! ###  -/
namespace Go.Proofs
open Go.Shelf
def Tryz.lays160_ren : Go.Shelf.Ren := ⟨fun | 160 => 110 | 232 => 159 | 231 => 158 | 227 => 160 | 234 => 162 | 233 => 161 | 236 => 164 | 235 => 163 | 228 => 192 | 271 => 195 | 151 => 194 | 197 => 193 | 120 => 217 | 152 => 216 | 260 => 215 | 137 => 186 | 119 => 232 | 224 => 233 | 225 => 234 | 217 => 213 | 266 => 231 | n => n, fun | 9 => 9 | 4 => 4 | 3 => 3 | 5 => 5 | 117 => 200 | 116 => 199 | 0 => 0 | 124 => 203 | 21 => 21 | 105 => 236 | 46 => 155 | 119 => 179 | 139 => 182 | 138 => 181 | n => n, fun | 3 => 0 | 4 => 1 | n => n⟩
theorem Tryz.lays160 : Go.Proofs.Lays.n160 Tryz.prog Tryz.lays160_ren := {
 mixed := by kernel_rfl
 f119 := Tryz.func232.trans (congrArg some (by kernel_rfl))
 f120 := Tryz.func217.trans (congrArg some (by kernel_rfl))
 f137 := Tryz.func186.trans (congrArg some (by kernel_rfl))
 f151 := Tryz.func194.trans (congrArg some (by kernel_rfl))
 f152 := Tryz.func216.trans (congrArg some (by kernel_rfl))
 f160 := Tryz.func110.trans (congrArg some (by kernel_rfl))
 f197 := Tryz.func193.trans (congrArg some (by kernel_rfl))
 f217 := Tryz.func213.trans (congrArg some (by kernel_rfl))
 f224 := Tryz.func233.trans (congrArg some (by kernel_rfl))
 f225 := Tryz.func234.trans (congrArg some (by kernel_rfl))
 f227 := Tryz.func160.trans (congrArg some (by kernel_rfl))
 f228 := Tryz.func192.trans (congrArg some (by kernel_rfl))
 f231 := Tryz.func158.trans (congrArg some (by kernel_rfl))
 f232 := Tryz.func159.trans (congrArg some (by kernel_rfl))
 f233 := Tryz.func161.trans (congrArg some (by kernel_rfl))
 f234 := Tryz.func162.trans (congrArg some (by kernel_rfl))
 f235 := Tryz.func163.trans (congrArg some (by kernel_rfl))
 f236 := Tryz.func164.trans (congrArg some (by kernel_rfl))
 f260 := Tryz.func215.trans (congrArg some (by kernel_rfl))
 f266 := Tryz.func231.trans (congrArg some (by kernel_rfl))
 f271 := Tryz.func195.trans (congrArg some (by kernel_rfl))
 t0 := Tryz.underlying0
 a0 := Tryz.isAgg0
 z0 := Tryz.sizeOf0
 v0 := Tryz.zeroValue0
 t3 := Tryz.underlying3
 a3 := Tryz.isAgg3
 z3 := Tryz.sizeOf3
 v3 := Tryz.zeroValue3
 t4 := Tryz.underlying4
 a4 := Tryz.isAgg4
 z4 := Tryz.sizeOf4
 v4 := Tryz.zeroValue4
 t5 := Tryz.underlying5
 a5 := Tryz.isAgg5
 z5 := Tryz.sizeOf5
 v5 := Tryz.zeroValue5
 t9 := Tryz.underlying9
 a9 := Tryz.isAgg9
 z9 := Tryz.sizeOf9
 v9 := Tryz.zeroValue9
 t21 := Tryz.underlying21
 a21 := Tryz.isAgg21
 z21 := Tryz.sizeOf21
 v21 := Tryz.zeroValue21
 t46 := Tryz.underlying155
 a46 := Tryz.isAgg155
 z46 := Tryz.sizeOf155
 v46 := Tryz.zeroValue155
 t105 := Tryz.underlying236
 a105 := Tryz.isAgg236
 z105 := Tryz.sizeOf236
 v105 := Tryz.zeroValue236
 t116 := Tryz.underlying199
 a116 := Tryz.isAgg199
 z116 := Tryz.sizeOf199
 t117 := Tryz.underlying200
 a117 := Tryz.isAgg200
 z117 := Tryz.sizeOf200
 v117 := Tryz.zeroValue200
 t119 := Tryz.underlying179
 a119 := Tryz.isAgg179
 z119 := Tryz.sizeOf179
 t124 := Tryz.underlying203
 a124 := Tryz.isAgg203
 z124 := Tryz.sizeOf203
 v124 := Tryz.zeroValue203
 t138 := Tryz.underlying181
 a138 := Tryz.isAgg181
 z138 := Tryz.sizeOf181
 v138 := Tryz.zeroValue181
 t139 := Tryz.underlying182
 a139 := Tryz.isAgg182
 z139 := Tryz.sizeOf182
 v139 := Tryz.zeroValue182
 g3 := by kernel_rfl
 g4 := by kernel_rfl }
open Go.RowKit in
theorem Tryz.strings_Trim_laid (s cutset : ByteArray) (w : World) (hs : s.size ≤ 9223372036854775807) (hcs : cutset.size < 4294967281) (hascii : ∀ (j : Nat) b, cutset.data.toList[j]? = some b → b.toNat < 128) :
 Calls Tryz.prog 110 #[.string s, .string cutset] w fun e w' => e = .returned (.string ⟨(Lib.trimS s.data.toList cutset.data.toList).toArray⟩) ∧ Below w.heap.size w w' := Any.strings_Trim_laid Tryz.lays160 (by kernel_rfl) s cutset w hs hcs hascii
end Go.Proofs
