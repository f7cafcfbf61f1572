/-  -/
import Derived.Test.YthlfljmfggmfdaaGreatDoorQk22
/-! ###  -/
namespace Go.Proofs.YthlfljmfggmfdaaGreatDoor
open Go.RowKit
theorem SB.valset {w0 a : World} {k : Int} {nl : Bool} {c : Cell} (h : SB w0 k nl c a) (d : Cell) : SB w0 k nl d (((a.setCell ⟨w0.heap.size + 1 + 1 + 1, 0, none⟩ (.bool d.null)).setCell ⟨w0.heap.size + 1 + 1 + 1, 1, none⟩ (.int .i64 d.n)).setCell ⟨w0.heap.size + 1 + 1 + 1, 2, none⟩ (.string d.s)) := by
 have hle : w0.heap.size ≤ w0.heap.size + 1 + 1 + 1 := by omega
 refine ⟨Old.setCell (Old.setCell (Old.setCell h.old hle _) hle _) hle _, ?_, ?_, ?_⟩
 · rw [heap_set_other (by omega), heap_set_other (by omega), heap_set_other (by omega)]; exact h.ty
 · obtain ⟨e, he⟩ := h.res
   refine ⟨e, ?_⟩
   show (World.heap _)[_]? = _
   rw [heap_set_other (by omega), heap_set_other (by omega), heap_set_other (by omega)]
   exact he
 · exact set3_heap h.val _ _ _
theorem SB.alloc {w0 a : World} {k : Int} {nl : Bool} {c : Cell} (h : SB w0 k nl c a) (o : Obj) : SB w0 k nl c (a.alloc o) := h.step (Old.alloc (Old.refl _) o)
theorem said_5 (s key : ByteArray) : saidC 5 ⟨5, key, 0, s⟩ = (unhexL s.data.toList).map fun l => (⟨false, 0, ⟨l.toArray⟩⟩ : Cell) := by simp [saidC]
theorem said_bytes {s key : ByteArray} (h : readOk s.data.toList) : saidC 5 ⟨5, key, 0, s⟩ = some ⟨false, 0, ⟨(unhexP s.data.toList).toArray⟩⟩ := by
 have e := said_5 s key
 rw [e, h.1]
 rfl
theorem said_nobytes {s key : ByteArray} {nl : Bool} (h : ¬ readOk s.data.toList) : (takenC vU 5 nl ⟨5, key, 0, s⟩).isSome = false ∧ ∀ (c c' : Cell), takenC vU 5 nl ⟨5, key, 0, s⟩ = some c' → c = c' := by
 have hn : takenC vU 5 nl ⟨5, key, 0, s⟩ = none := by
  unfold takenC
  rw [said_5]
  cases hu : unhexL s.data.toList with
  | none => rfl
  | some r =>
    have hr : unhexP s.data.toList = r := by
     have := unhexL_inv hu
     have h2 := unhexL_some this.1 this.2
     rw [hu] at h2
     injection h2 with h2
     exact h2.symm
    have hlen : ¬ r.length ≤ 1024 := fun hh => h ⟨by rw [hu, hr], by rw [hr]; exact hh⟩
    have h2 : cellOk vU 5 nl ⟨false, 0, ⟨r.toArray⟩⟩ = false := by
     have h3 := sz_5 ⟨false, 0, ⟨r.toArray⟩⟩
     rw [szB_len, decide_eq_false hlen] at h3
     simp [cellOk, ← h3]
    simp [h2]
 rw [hn]
 simp
theorem xT_cat (s : ByteArray) : (⟨#[120]⟩ : ByteArray) ++ s = xT s.data.toList := by
 apply bytesD_ext
 simp [xT]
set_option maxRecDepth 100000 in
set_option maxHeartbeats 4000000 in
theorem taken_bytes (nl : Bool) (key s : ByteArray) (z : Int) (hs : s.size ≤ 1073741824) (w : World) (hT : Tabs w) : Calls Tryz.prog 45 #[Ty 5 nl, Nv ⟨5, key, 0, s⟩ z] w (TakenP w 5 nl ⟨5, key, 0, s⟩) := by
 have CR := hide (fun (w' : World) (o : Old w w') => read5_run s.data.toList (by rw [Array.length_toList]; exact hs) w' (hT.old o))
 have hcc := xT_cat s
 have hsz : ¬ 9223372036854775807 < (⟨#[120]⟩ : ByteArray).size + s.size := by
  show ¬ 9223372036854775807 < 1 + s.size
  omega
 have hsz2 : ¬ 9223372036854775807 < 1 + s.size := by omega
 obtain ⟨X, hX⟩ : ∃ X, xT s.data.toList = X := ⟨_, rfl⟩
 rw [hX] at CR hcc
 have HT := hide hT
 clear hT hX
 unfold Ret at CR
 unfold Ty at *
 unfold Nv
 by_cases hr : readOk s.data.toList
 · obtain ⟨t1, t2⟩ := taken_of (nl := nl) (said_bytes (key := key) hr)
   have T1 := hide t1
   have T2 := hide t2
   unfold readV at CR
   rw [if_pos hr] at CR
   obtain ⟨P, hP⟩ : ∃ P : ByteArray, ⟨(unhexP s.data.toList).toArray⟩ = P := ⟨_, rfl⟩
   rw [hP] at CR T1 T2
   have CK := hide (fun (w' : World) (o : Old w w') => ccheck_run 5 nl ⟨false, 0, P⟩ w' (HT.out.old o))
   have HE := err_ok (k := 5) (nl := nl) (c := ⟨false, 0, P⟩) (by decide)
   generalize cellErr vU 5 nl ⟨false, 0, P⟩ = E at *
   generalize cellOk vU 5 nl ⟨false, 0, P⟩ = B at *
   clear t1 t2 hP hr
   unfold Ret Cl Ty at CK
   unfold Cl at CR
   simp only at CK CR
   go_enter Tryz.func45, Tryz.ntmps45
   go_wp2_with fail
   have S0 := hide (SB.start w 5 nl (.cells #[.int .i64 5, .string key, .int .i64 0, .string s, .int .i64 z] 36) ⟨false, 0, s⟩)
   obtain ⟨W, hW⟩ : ∃ W, W = ((((w.alloc (.cells #[.int .i64 5, .bool nl] 54)).alloc (.cells #[.int .i64 5, .string key, .int .i64 0, .string s, .int .i64 z] 36)).alloc (.cells #[.bool false, .int .i64 0, .string ⟨#[]⟩] 38)).alloc (.cells #[.bool false, .int .i64 0, .string s] 38)) := ⟨_, rfl⟩
   rw [← hW] at S0 ⊢
   clear hW
   refine (CR.out _ S0.out.old).mono ?_
   rintro e w5 ⟨rfl, o5⟩
   have S5 := hide (S0.out.step o5)
   clear o5 S0 CR
   go_upto_region 15 with fail
   have C6 := hide (show CBox (w5.alloc (.cells #[.bool false, .int .i64 0, .string P] 38)) w5.heap.size ⟨false, 0, P⟩ from heap_alloc_new _ _)
   have S6 := hide (S5.out.alloc (.cells #[.bool false, .int .i64 0, .string P] 38))
   obtain ⟨w6, hw6⟩ : ∃ w6, w6 = w5.alloc (.cells #[.bool false, .int .i64 0, .string P] 38) := ⟨_, rfl⟩
   rw [← hw6] at S6 C6 ⊢
   clear hw6 S5
   obtain ⟨x0, x1, x2⟩ := S6.out.val.cells
   have fz := S6.out.val.free
   obtain ⟨c0, c1, c2⟩ := C6.out.cells
   go_wp2_with fail
   have S0 := hide (S6.out.valset ⟨false, 0, P⟩)
   obtain ⟨W, hW⟩ : ∃ W, W = (((w6.setCell ⟨w.heap.size + 1 + 1 + 1, 0, none⟩ (.bool false)).setCell ⟨w.heap.size + 1 + 1 + 1, 1, none⟩ (.int .i64 0)).setCell ⟨w.heap.size + 1 + 1 + 1, 2, none⟩ (.string P)) := ⟨_, rfl⟩
   rw [← hW] at S0 ⊢
   clear hW x0 x1 x2 fz c0 c1 c2
   have h0 := S0.out
   have y0 : ∀ w', SB w 5 nl ⟨false, 0, P⟩ w' → w'.cell? ⟨w.heap.size, 0, none⟩ = some (.int .i64 5) := fun w' q => (cell_of_heap q.ty).trans rfl
   have y1 : ∀ w', SB w 5 nl ⟨false, 0, P⟩ w' → w'.cell? ⟨w.heap.size, 1, none⟩ = some (.bool nl) := fun w' q => (cell_of_heap q.ty).trans rfl
   have y2 : ∀ w', SB w 5 nl ⟨false, 0, P⟩ w' → w'.cell? ⟨w.heap.size + 1 + 1 + 1, 0, none⟩ = some (.bool false) := fun w' q => q.val.cells.1
   have y3 : ∀ w', SB w 5 nl ⟨false, 0, P⟩ w' → w'.cell? ⟨w.heap.size + 1 + 1 + 1, 1, none⟩ = some (.int .i64 0) := fun w' q => q.val.cells.2.1
   have y4 : ∀ w', SB w 5 nl ⟨false, 0, P⟩ w' → w'.cell? ⟨w.heap.size + 1 + 1 + 1, 2, none⟩ = some (.string P) := fun w' q => q.val.cells.2.2
   have yf : ∀ w' i, SB w 5 nl ⟨false, 0, P⟩ w' → w'.frozen? ⟨w.heap.size + 1 + 1, i, none⟩ = false := fun w' i q => q.free i
   obtain ⟨f0, z0⟩ : ∃ f : World → Value, ∀ w', SB w 5 nl ⟨false, 0, P⟩ w' → w'.cell? ⟨w.heap.size + 1 + 1, 0, none⟩ = some (f w') := ⟨_, fun w' q => q.there 0 (by decide)⟩
   obtain ⟨f1, z1⟩ : ∃ f : World → Value, ∀ w', SB w 5 nl ⟨false, 0, P⟩ w' → w'.cell? ⟨w.heap.size + 1 + 1, 1, none⟩ = some (f w') := ⟨_, fun w' q => q.there 1 (by decide)⟩
   obtain ⟨f2, z2⟩ : ∃ f : World → Value, ∀ w', SB w 5 nl ⟨false, 0, P⟩ w' → w'.cell? ⟨w.heap.size + 1 + 1, 2, none⟩ = some (f w') := ⟨_, fun w' q => q.there 2 (by decide)⟩
   have hd := hide (Old.drew h0.old)
   go_region_held3 (fun w' => SB w 5 nl ⟨false, 0, P⟩ w')
    (first | assumption | (exact SB.drew h0) | (exact SB.step (SB.drew h0) o9) | (exact SB.store (by assumption) ⟨false, 0, P⟩) | (fail "none"))
    (first
      | (go_at_call 74; (with_reducible refine (CK.out _ hd.out).mono ?_); rintro e w9 ⟨rfl, o9⟩)
      | (fail "none"))
   all_goals
    have S9 := hide (SB.step (SB.drew h0) o9)
    have O6 := hide (S9.out.store ⟨false, 0, P⟩).old
    obtain ⟨d, hdd⟩ := S9.out.res
    clear y0 y1 y2 y3 y4 yf z0 z1 z2
    go_wp2_with fail
    refine bodyPost_ret (results_box2 rfl _ _ (w.heap.size + 1 + 1) _ _ _ rfl (set3_heap hdd _ _ _)) rfl ?_
    exact ⟨_, by rw [T1.out]; rfl, T2.out, O6.out⟩
 · obtain ⟨t1, t2⟩ := said_nobytes (key := key) (nl := nl) hr
   have T1 := hide t1
   have T2 := hide t2
   unfold readV at CR
   rw [if_neg hr] at CR
   clear t1 t2 hr
   unfold Cl at CR
   simp only at CR
   go_enter Tryz.func45, Tryz.ntmps45
   go_wp2_with fail
   have S0 := hide (SB.start w 5 nl (.cells #[.int .i64 5, .string key, .int .i64 0, .string s, .int .i64 z] 36) ⟨false, 0, s⟩)
   obtain ⟨W, hW⟩ : ∃ W, W = ((((w.alloc (.cells #[.int .i64 5, .bool nl] 54)).alloc (.cells #[.int .i64 5, .string key, .int .i64 0, .string s, .int .i64 z] 36)).alloc (.cells #[.bool false, .int .i64 0, .string ⟨#[]⟩] 38)).alloc (.cells #[.bool false, .int .i64 0, .string s] 38)) := ⟨_, rfl⟩
   rw [← hW] at S0 ⊢
   clear hW
   refine (CR.out _ S0.out.old).mono ?_
   rintro e w5 ⟨rfl, o5⟩
   have S5 := hide (S0.out.step o5)
   clear o5 S0 CR
   go_upto_region 15 with fail
   have C6 := hide (show CBox (w5.alloc (.cells #[.bool false, .int .i64 0, .string ⟨#[]⟩] 38)) w5.heap.size ⟨false, 0, ⟨#[]⟩⟩ from heap_alloc_new _ _)
   have S6 := hide (S5.out.alloc (.cells #[.bool false, .int .i64 0, .string ⟨#[]⟩] 38))
   obtain ⟨w6, hw6⟩ : ∃ w6, w6 = w5.alloc (.cells #[.bool false, .int .i64 0, .string ⟨#[]⟩] 38) := ⟨_, rfl⟩
   rw [← hw6] at S6 C6 ⊢
   clear hw6 S5
   obtain ⟨x0, x1, x2⟩ := S6.out.val.cells
   have fz := S6.out.val.free
   obtain ⟨c0, c1, c2⟩ := C6.out.cells
   go_wp2_with fail
   have S0 := hide (S6.out.valset ⟨false, 0, ⟨#[]⟩⟩)
   obtain ⟨W, hW⟩ : ∃ W, W = (((w6.setCell ⟨w.heap.size + 1 + 1 + 1, 0, none⟩ (.bool false)).setCell ⟨w.heap.size + 1 + 1 + 1, 1, none⟩ (.int .i64 0)).setCell ⟨w.heap.size + 1 + 1 + 1, 2, none⟩ (.string ⟨#[]⟩)) := ⟨_, rfl⟩
   rw [← hW] at S0 ⊢
   clear hW x0 x1 x2 fz c0 c1 c2
   have h0 := S0.out
   have y0 : ∀ w', SB w 5 nl ⟨false, 0, ⟨#[]⟩⟩ w' → w'.cell? ⟨w.heap.size, 0, none⟩ = some (.int .i64 5) := fun w' q => (cell_of_heap q.ty).trans rfl
   have y1 : ∀ w', SB w 5 nl ⟨false, 0, ⟨#[]⟩⟩ w' → w'.cell? ⟨w.heap.size, 1, none⟩ = some (.bool nl) := fun w' q => (cell_of_heap q.ty).trans rfl
   have y2 : ∀ w', SB w 5 nl ⟨false, 0, ⟨#[]⟩⟩ w' → w'.cell? ⟨w.heap.size + 1 + 1 + 1, 0, none⟩ = some (.bool false) := fun w' q => q.val.cells.1
   have y3 : ∀ w', SB w 5 nl ⟨false, 0, ⟨#[]⟩⟩ w' → w'.cell? ⟨w.heap.size + 1 + 1 + 1, 1, none⟩ = some (.int .i64 0) := fun w' q => q.val.cells.2.1
   have y4 : ∀ w', SB w 5 nl ⟨false, 0, ⟨#[]⟩⟩ w' → w'.cell? ⟨w.heap.size + 1 + 1 + 1, 2, none⟩ = some (.string ⟨#[]⟩) := fun w' q => q.val.cells.2.2
   have yf : ∀ w' i, SB w 5 nl ⟨false, 0, ⟨#[]⟩⟩ w' → w'.frozen? ⟨w.heap.size + 1 + 1, i, none⟩ = false := fun w' i q => q.free i
   obtain ⟨f0, z0⟩ : ∃ f : World → Value, ∀ w', SB w 5 nl ⟨false, 0, ⟨#[]⟩⟩ w' → w'.cell? ⟨w.heap.size + 1 + 1, 0, none⟩ = some (f w') := ⟨_, fun w' q => q.there 0 (by decide)⟩
   obtain ⟨f1, z1⟩ : ∃ f : World → Value, ∀ w', SB w 5 nl ⟨false, 0, ⟨#[]⟩⟩ w' → w'.cell? ⟨w.heap.size + 1 + 1, 1, none⟩ = some (f w') := ⟨_, fun w' q => q.there 1 (by decide)⟩
   obtain ⟨f2, z2⟩ : ∃ f : World → Value, ∀ w', SB w 5 nl ⟨false, 0, ⟨#[]⟩⟩ w' → w'.cell? ⟨w.heap.size + 1 + 1, 2, none⟩ = some (f w') := ⟨_, fun w' q => q.there 2 (by decide)⟩
   obtain ⟨x0, x1, x2⟩ := h0.val.cells
   obtain ⟨d, hdd⟩ := h0.res
   obtain ⟨r0, r1, r2⟩ := hdd.cells
   have fz := hdd.free
   have O6 := hide (h0.store ⟨false, 0, ⟨#[]⟩⟩).old
   have HS := hide (set3_heap hdd (.bool false) (.int .i64 0) (.string ⟨#[]⟩))
   clear y0 y1 y2 y3 y4 yf z0 z1 z2
   go_region
   go_wp2_with fail
   refine bodyPost_ret (results_box2 rfl _ _ (w.heap.size + 1 + 1) _ _ _ rfl HS.out) rfl ?_
   exact ⟨⟨false, 0, ⟨#[]⟩⟩, by rw [T1.out]; rfl, T2.out _, Old.drew O6.out⟩
def HdOk (h : Hd) : Prop := leafOk vU h ∨ ((h.kind = 6 ∨ h.kind = 7) ∧ h.n = 0 ∧ h.s = none_)
theorem taken_run (k : Int) (nl : Bool) (h : Hd) (z : Int) (hk : mayK k = true) (ho : HdOk h) (hs : h.s.size ≤ 1073741824) (w : World) (hT : Tabs w) : Calls Tryz.prog 45 #[Ty k nl, Nv h z] w (TakenP w k nl h) := by
 obtain ⟨kind, key, n, s⟩ := h
 simp only at hs
 have h5 : k = 1 ∨ k = 2 ∨ k = 3 ∨ k = 4 ∨ k = 5 := by simp [mayK] at hk; omega
 rcases ho with (⟨h1 | h1 | h1, h2, h3⟩ | ⟨h1, h2⟩ | ⟨h1, h2, h3⟩) | ⟨h1 | h1, h2, h3⟩
 all_goals simp only at h1 h2
 · subst h1
   exact taken_null k nl key s n z hk w hT
 · simp only at h3
   subst h1 h2 h3
   by_cases e : k = 1
   · subst e
     exact taken_false1 nl key z w hT
   · exact taken_falsen k nl key z e w
 · simp only at h3
   subst h1 h2 h3
   by_cases e : k = 1
   · subst e
     exact taken_true1 nl key z w hT
   · exact taken_truen k nl key z e w
 · subst h1 h2
   by_cases e : k = 2
   · subst e
     exact taken_num2 nl key n z w hT
   · by_cases e3 : k = 3
     · subst e3
       exact taken_num3 nl key n z w hT
     · exact taken_numn k nl key n z e e3 w
 · subst h1 h2
   by_cases e : k = 4
   · subst e
     exact taken_str4 nl key s z w hT
   · by_cases e5 : k = 5
     · subst e5
       exact taken_bytes nl key s z hs w hT
     · exact taken_strn k nl key s z e e5 w
 · simp only at h3
   subst h1 h2 h3
   exact taken_6 k nl key z w
 · simp only at h3
   subst h1 h2 h3
   exact taken_7 k nl key z w
end Go.Proofs.YthlfljmfggmfdaaGreatDoor
