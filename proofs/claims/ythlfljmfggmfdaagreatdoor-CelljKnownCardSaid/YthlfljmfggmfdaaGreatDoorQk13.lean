/-  -/
import Derived.Test.YthlfljmfggmfdaaGreatDoorQk08
import Derived.Test.YthlfljmfggmfdaaGreatDoorQk12
import Derived.Deep.MidRow
import Derived.Deep.RegionWith
import Derived.Laws.EntriesVeiled
import Derived.Laws.Rows
import Derived.Test.YthlfljmfggmfdaaGreatDoorQk09
import Derived.Test.YthlfljmfggmfdaaGreatDoorQk07
import Derived.Lib.RuneBytes
import Derived.Lib.ValidLaws
import Derived.Maps.OwnSet
import Derived.Maps.RangeWalk
/-! ###  -/
namespace Go.Proofs.YthlfljmfggmfdaaGreatDoor
open Go.RowKit
def IsPl (lo hi : Int) (v : Value) (w : World) : Prop := ∃ p q, v = .func (.func 130) #[] #[.pointer (some ⟨p, 0, none⟩), .pointer (some ⟨q, 0, none⟩)] ∧ w.cell? ⟨p, 0, none⟩ = some (.int .i64 lo) ∧ w.cell? ⟨q, 0, none⟩ = some (.int .i64 hi)
theorem IsPl.old {lo hi : Int} {v : Value} {w w' : World} (h : IsPl lo hi v w) (o : Old w w') : IsPl lo hi v w' := by
 obtain ⟨p, q, e, h1, h2⟩ := h
 exact ⟨p, q, e, o.cell h1, o.cell h2⟩
theorem IsPl.set {lo hi : Int} {v : Value} {w w' : World} {g : Nat} (h : IsPl lo hi v w) (hg : w.cell? ⟨g, 0, none⟩ = some .nilFunc) (hs : ∀ p v, w.cell? ⟨p, 0, none⟩ = some v → p ≠ g → w'.cell? ⟨p, 0, none⟩ = some v) : IsPl lo hi v w' := by
 obtain ⟨p, q, e, h1, h2⟩ := h
 refine ⟨p, q, e, hs _ _ h1 ?_, hs _ _ h2 ?_⟩
 · rintro rfl
   rw [hg] at h1
   cases h1
 · rintro rfl
   rw [hg] at h2
   cases h2
theorem plain_mk (lo hi : Int) (w : World) : Calls Tryz.prog 129 #[.int .i64 lo, .int .i64 hi] w fun e w' => ∃ v, e = .returned v ∧ IsPl lo hi v w' ∧ Old w w' := by
 go_enter Tryz.func129, Tryz.ntmps129
 go_wp2_with fail
 go_ret
 refine ⟨_, rfl, ⟨w.heap.size, w.heap.size + 1, rfl, ?_, ?_⟩, Old.alloc (Old.alloc (Old.refl _) _) _⟩
 · simp
 · simp
abbrev Fv (f : FuncId) : Value := .func (.func f) #[] #[]
abbrev Tx (b : Nat) : Value := .func (.func 141) #[] #[.pointer (some ⟨b, 0, none⟩)]
theorem heap_old {w w' : World} {g : Nat} {x : Obj} (h : w.heap[g]? = some x) (o : Old w w') : w'.heap[g]? = some x := by
 rw [o.block g (by
  rcases Nat.lt_or_ge g w.heap.size with hl | hl
  · exact hl
  · rw [Array.getElem?_eq_none hl] at h; cases h)]
 exact h
def ofL (f1 f2 f3 : Value) (b : Nat) : Nat → List Value
 | 1 => [f1, Fv 132, Fv 134, Fv 135, Fv 136]
 | 2 => [f2, Fv 137, Fv 138, Fv 139, Fv 140]
 | 3 => [f3, Fv 137, Fv 138, Fv 139, Fv 140]
 | 4 => [(Tx b), Fv 142, Fv 143, Fv 144, Fv 145]
 | 5 => [Fv 131, Fv 146, Fv 147, Fv 144, Fv 145]
 | _ => [.nilFunc, .nilFunc, .nilFunc, .nilFunc, .nilFunc]
def ofTab (f1 f2 f3 : Value) (b : Nat) : List Value := [.nilFunc, .nilFunc, .nilFunc, .nilFunc, .nilFunc, f1, Fv 132, Fv 134, Fv 135, Fv 136, f2, Fv 137, Fv 138, Fv 139, Fv 140, f3, Fv 137, Fv 138, Fv 139, Fv 140, (Tx b), Fv 142, Fv 143, Fv 144, Fv 145, Fv 131, Fv 146, Fv 147, Fv 144, Fv 145]
def nil30 : Array Value := #[.nilFunc, .nilFunc, .nilFunc, .nilFunc, .nilFunc, .nilFunc, .nilFunc, .nilFunc, .nilFunc, .nilFunc, .nilFunc, .nilFunc, .nilFunc, .nilFunc, .nilFunc, .nilFunc, .nilFunc, .nilFunc, .nilFunc, .nilFunc, .nilFunc, .nilFunc, .nilFunc, .nilFunc, .nilFunc, .nilFunc, .nilFunc, .nilFunc, .nilFunc, .nilFunc]
theorem setCell_heap_out (w : World) (a : Addr) (v : Value) (k : Nat) (h : k ≠ a.block) : (w.setCell a v).heap[k]? = w.heap[k]? := by
 simp only [World.setCell, Array.getElem?_modify]
 rw [if_neg (fun e => h e.symm)]
theorem setCells_heap_out (b : Nat) : ∀ (vs : List Value) (o : Nat) (w : World) (k : Nat), k ≠ b → (w.setCells b o vs).heap[k]? = w.heap[k]?
 | [], _, _, _, _ => rfl
 | v :: r, o, w, k, h => by
   show ((w.setCell ⟨b, o, none⟩ v).setCells b (o + 1) r).heap[k]? = _
   rw [setCells_heap_out b r _ _ k h, setCell_heap_out _ _ _ _ h]
theorem old_setCells (b : Nat) : ∀ (vs : List Value) (o : Nat) (w0 w : World), Old w0 w → w0.heap.size ≤ b → Old w0 (w.setCells b o vs)
 | [], _, _, _, h, _ => h
 | v :: r, o, w0, w, h, hb => old_setCells b r (o + 1) w0 (w.setCell ⟨b, o, none⟩ v) (Old.setCell h (p := ⟨b, o, none⟩) hb v) hb
def OfG (b n0 : Nat) : Nat → Value → World → Prop
 | 0, v, _ => v = Fv 129
 | 3, v, _ => v = Fv 129
 | 6, v, _ => v = Fv 129
 | 1, v, w => IsPl 0 1 v w
 | 2, v, w => ∃ f1, v = .agg (#[f1, Fv 132, Fv 134, Fv 135, Fv 136]) ∧ IsPl 0 1 f1 w
 | 4, v, w => IsPl (-2147483648) 2147483647 v w
 | 5, v, w => ∃ f2, v = .agg (#[f2, Fv 137, Fv 138, Fv 139, Fv 140]) ∧ IsPl (-2147483648) 2147483647 f2 w
 | 7, v, w => IsPl (-9223372036854775808) 9223372036854775807 v w
 | 8, v, w => ∃ f3, v = .agg (#[f3, Fv 137, Fv 138, Fv 139, Fv 140]) ∧ IsPl (-9223372036854775808) 9223372036854775807 f3 w
 | 9, v, _ => v = Tx b
 | 10, v, _ => v = .agg (#[(Tx b), Fv 142, Fv 143, Fv 144, Fv 145])
 | 11, v, _ => v = Fv 131
 | 12, v, _ => v = .agg (#[Fv 131, Fv 146, Fv 147, Fv 144, Fv 145])
 | 13, v, w => ∃ f1 f2 f3, v = .agg (ofTab f1 f2 f3 b).toArray ∧ IsPl 0 1 f1 w ∧ IsPl (-2147483648) 2147483647 f2 w ∧ IsPl (-9223372036854775808) 9223372036854775807 f3 w
 | 14, v, w => ∃ g, v = .pointer (some ⟨g, 0, none⟩) ∧ n0 ≤ g ∧ w.heap[g]? = some (.cells nil30 185)
 | _, _, _ => True
theorem OfG.old {b n0 : Nat} : ∀ {i : Nat} {v : Value} {w w' : World}, OfG b n0 i v w → Old w w' → OfG b n0 i v w'
 | 0, _, _, _, h, _ => h
 | 3, _, _, _, h, _ => h
 | 6, _, _, _, h, _ => h
 | 9, _, _, _, h, _ => h
 | 10, _, _, _, h, _ => h
 | 11, _, _, _, h, _ => h
 | 12, _, _, _, h, _ => h
 | 1, _, _, _, h, o => IsPl.old h o
 | 2, _, _, _, ⟨f, h1, h2⟩, o => ⟨f, h1, h2.old o⟩
 | 4, _, _, _, h, o => IsPl.old h o
 | 5, _, _, _, ⟨f, h1, h2⟩, o => ⟨f, h1, h2.old o⟩
 | 7, _, _, _, h, o => IsPl.old h o
 | 8, _, _, _, ⟨f, h1, h2⟩, o => ⟨f, h1, h2.old o⟩
 | 13, _, _, _, ⟨f1, f2, f3, h, h1, h2, h3⟩, o => ⟨f1, f2, f3, h, h1.old o, h2.old o, h3.old o⟩
 | 14, _, _, _, ⟨g, h, h1, h3⟩, o => ⟨g, h, h1, heap_old h3 o⟩
 | _ + 15, _, _, _, _, _ => True.intro
def OfIs (k : Nat) (v : Value) (w : World) : Prop := ∃ f1 f2 f3 b, v = .agg (ofL f1 f2 f3 b k).toArray ∧ IsPl 0 1 f1 w ∧ IsPl (-2147483648) 2147483647 f2 w ∧ IsPl (-9223372036854775808) 9223372036854775807 f3 w ∧ w.cell? ⟨b, 0, none⟩ = some (Fv 131)
theorem of_end {w w4 : World} {f1 f2 f3 : Value} {b B : Nat} (k : Nat) (O : Old w w4) (hB : w.heap.size ≤ B) (b0 : w4.cell? ⟨B, 0, none⟩ = some .nilFunc) (P1 : IsPl 0 1 f1 w4) (P2 : IsPl (-2147483648) 2147483647 f2 w4) (P3 : IsPl (-9223372036854775808) 9223372036854775807 f3 w4)
 (XF : w4.cell? ⟨b, 0, none⟩ = some (Fv 131)) (vs : List Value) : OfIs k (.agg (ofL f1 f2 f3 b k).toArray) (w4.setCells B 0 vs) ∧ Old w (w4.setCells B 0 vs) := by
 have hs : ∀ p v, w4.cell? ⟨p, 0, none⟩ = some v → p ≠ B → (w4.setCells B 0 vs).cell? ⟨p, 0, none⟩ = some v := by
  intro p v h hp
  rw [World.cell?_setCells_out B _ 0 w4 ⟨p, 0, none⟩ (fun hb => absurd hb hp)]
  exact h
 refine ⟨⟨f1, f2, f3, b, rfl, P1.set b0 hs, P2.set b0 hs, P3.set b0 hs, hs _ _ XF ?_⟩, old_setCells _ _ _ _ _ O hB⟩
 rintro rfl
 rw [b0] at XF
 cases XF
theorem of_end5 {w w4 : World} {f1 f2 f3 : Value} {b B : Nat} (k : Nat) (O : Old w w4) (hB : w.heap.size ≤ B) (b0 : w4.cell? ⟨B, 0, none⟩ = some .nilFunc) (P1 : IsPl 0 1 f1 w4) (P2 : IsPl (-2147483648) 2147483647 f2 w4) (P3 : IsPl (-9223372036854775808) 9223372036854775807 f3 w4)
 (XF : w4.cell? ⟨b, 0, none⟩ = some (Fv 131)) (v0 v1 v2 v3 v4 : Value) (hv : ofL f1 f2 f3 b k = [v0, v1, v2, v3, v4]) :
 OfIs k (.agg #[v0, v1, v2, v3, v4]) (((((w4.setCell ⟨B, 0, none⟩ v0).setCell ⟨B, 1, none⟩ v1).setCell ⟨B, 2, none⟩ v2).setCell ⟨B, 3, none⟩ v3).setCell ⟨B, 4, none⟩ v4) ∧
  Old w (((((w4.setCell ⟨B, 0, none⟩ v0).setCell ⟨B, 1, none⟩ v1).setCell ⟨B, 2, none⟩ v2).setCell ⟨B, 3, none⟩ v3).setCell ⟨B, 4, none⟩ v4) := by
 have h := of_end k O hB b0 P1 P2 P3 XF [v0, v1, v2, v3, v4]
 rw [hv] at h
 exact h
theorem set5_heap {w : World} {B : Nat} {T : TypeId} {a0 a1 a2 a3 a4 : Value} (h : w.heap[B]? = some (.cells #[a0, a1, a2, a3, a4] T)) (v0 v1 v2 v3 v4 : Value) : (w.setCells B 0 [v0, v1, v2, v3, v4]).heap[B]? = some (.cells #[v0, v1, v2, v3, v4] T) := by
 simp [World.setCells, World.setCell, Array.getElem?_modify, h]
theorem kindInfo : (Tryz.prog.info? 151).map (·.size) = some 5 := by kernel_rfl
theorem tabInfo : (Tryz.prog.info? 185).map (·.size) = some 30 := by kernel_rfl
set_option maxRecDepth 100000 in
set_option maxHeartbeats 4000000 in
theorem of_run (k : Nat) (h1 : 1 ≤ k) (h5 : k ≤ 5) (nl : Bool) (w : World) : Calls Tryz.prog 107 #[Ty (k : Int) nl] w fun e w' => ∃ v, e = .returned v ∧ OfIs k v w' ∧ Old w w' := by
 go_enter Tryz.func107, Tryz.ntmps107
 go_wp2_with fail
 obtain ⟨W3, hW3⟩ : ∃ W3, W3 = ((w.alloc (Obj.cells #[Value.int IntKind.i64 (k : Int), Value.bool nl] 54)).alloc (Obj.cells #[Value.nilFunc, Value.nilFunc, Value.nilFunc, Value.nilFunc, Value.nilFunc] 151)).alloc (Obj.cells #[Value.func (Fn.func 131) #[] #[]] 146) := ⟨_, rfl⟩
 have HO : Hid (Old w W3) := hide (by rw [hW3]; exact Old.alloc (Old.alloc (Old.alloc (Old.refl _) _) _) _)
 have HS : W3.heap.size = w.heap.size + 1 + 1 + 1 := by rw [hW3]; simp
 have HK0 : Hid (W3.cell? ⟨w.heap.size, 0, none⟩ = some (.int .i64 (k : Int))) := hide (by rw [hW3]; simp [go_sem])
 have HBh : W3.heap[w.heap.size + 1]? = some (.cells #[Value.nilFunc, Value.nilFunc, Value.nilFunc, Value.nilFunc, Value.nilFunc] 151) := by
  rw [hW3]
  have h := heap_alloc_new (w.alloc (Obj.cells #[Value.int IntKind.i64 (k : Int), Value.bool nl] 54)) (Obj.cells #[Value.nilFunc, Value.nilFunc, Value.nilFunc, Value.nilFunc, Value.nilFunc] 151)
  rw [show (w.alloc (Obj.cells #[Value.int IntKind.i64 (k : Int), Value.bool nl] 54)).heap.size = w.heap.size + 1 by simp] at h
  exact heap_old h (Old.alloc (Old.refl _) _)
 have HF : Hid (W3.cell? ⟨w.heap.size + 1 + 1, 0, none⟩ = some (Fv 131)) := hide (by rw [hW3]; simp [go_sem])
 rw [← hW3]
 clear hW3
 have HBH := hide HBh
 clear HBh
 refine region_dag_last (fun val => ⟨#[Ty (k : Int) nl, Value.pointer (some { block := w.heap.size, off := 0 }), Value.pointer (some { block := w.heap.size + 1, off := 0 }), Fv 129, Value.pointer (some { block := w.heap.size + 1 + 1, off := 0 }), val 14, val 0, val 1, val 2, val 3, val 4, val 5, val 6, val 7, val 8, val 9, val 10, val 11, val 12, val 13, undef, undef, undef, undef], []⟩) (fun _ => undef) (OfG (w.heap.size + 1 + 1) W3.heap.size) (by kernel_rfl) (by kernel_rfl) (by kernel_rfl) (by decide) rfl ?_ (fun i v w' w'' o h => OfG.old h o) ?_ ?_
 · repeat' (first | exact True.intro | refine And.intro (fun _ _ _ => rfl) ?_)
   all_goals (refine And.intro (fun h => absurd h (by decide)) ?_; exact True.intro)
 · refine ⟨?s0, ?s1, ?s2, ?s3, ?s4, ?s5, ?s6, ?s7, ?s8, ?s9, ?s10, ?s11, ?s12, ?s13, ?s14, fun h => absurd h (by decide), True.intro⟩
   case s0 =>
    intro _ val w2 ho hw K hK
    refine wp_value (v := Fv 129) (w' := w2) ?_ (hK _ _ (Old.refl _) rfl)
    go_simp
   case s3 =>
    intro _ val w2 ho hw K hK
    refine wp_value (v := Fv 129) (w' := w2) ?_ (hK _ _ (Old.refl _) rfl)
    go_simp
   case s6 =>
    intro _ val w2 ho hw K hK
    refine wp_value (v := Fv 129) (w' := w2) ?_ (hK _ _ (Old.refl _) rfl)
    go_simp
   case s1 =>
    intro _ val w2 ho hw K hK
    have d : val 0 = Fv 129 := hw ⟨0, .data⟩ (by simp) rfl
    refine wp_enter (f := 129) (args := #[.int .i64 0, .int .i64 1]) (w' := w2) ?_ ((plain_mk 0 1 w2).mono fun e w3 ⟨v, he, hp, o⟩ => ⟨v, he, hK _ _ o hp⟩)
    go_simp
   case s2 =>
    intro _ val w2 ho hw K hK
    have d : IsPl 0 1 (val 1) w2 := hw ⟨1, .data⟩ (by simp) rfl
    obtain ⟨p, q, hv, _, _⟩ := id d
    refine wp_value (v := .agg #[val 1, Fv 132, Fv 134, Fv 135, Fv 136]) (w' := w2) ?_ (hK _ _ (Old.refl _) ⟨val 1, rfl, d⟩)
    go_simp
   case s4 =>
    intro _ val w2 ho hw K hK
    have d : val 3 = Fv 129 := hw ⟨3, .data⟩ (by simp) rfl
    refine wp_enter (f := 129) (args := #[.int .i64 (-2147483648), .int .i64 2147483647]) (w' := w2) ?_ ((plain_mk (-2147483648) 2147483647 w2).mono fun e w3 ⟨v, he, hp, o⟩ => ⟨v, he, hK _ _ o hp⟩)
    go_simp
   case s5 =>
    intro _ val w2 ho hw K hK
    have d : IsPl (-2147483648) 2147483647 (val 4) w2 := hw ⟨4, .data⟩ (by simp) rfl
    obtain ⟨p, q, hv, _, _⟩ := id d
    refine wp_value (v := .agg #[val 4, Fv 137, Fv 138, Fv 139, Fv 140]) (w' := w2) ?_ (hK _ _ (Old.refl _) ⟨val 4, rfl, d⟩)
    go_simp
   case s7 =>
    intro _ val w2 ho hw K hK
    have d : val 6 = Fv 129 := hw ⟨6, .data⟩ (by simp) rfl
    refine wp_enter (f := 129) (args := #[.int .i64 (-9223372036854775808), .int .i64 9223372036854775807]) (w' := w2) ?_ ((plain_mk (-9223372036854775808) 9223372036854775807 w2).mono fun e w3 ⟨v, he, hp, o⟩ => ⟨v, he, hK _ _ o hp⟩)
    go_simp
   case s8 =>
    intro _ val w2 ho hw K hK
    have d : IsPl (-9223372036854775808) 9223372036854775807 (val 7) w2 := hw ⟨7, .data⟩ (by simp) rfl
    obtain ⟨p, q, hv, _, _⟩ := id d
    refine wp_value (v := .agg #[val 7, Fv 137, Fv 138, Fv 139, Fv 140]) (w' := w2) ?_ (hK _ _ (Old.refl _) ⟨val 7, rfl, d⟩)
    go_simp
   case s9 =>
    intro _ val w2 ho hw K hK
    refine wp_value (v := Tx (w.heap.size + 1 + 1)) (w' := w2) ?_ (hK _ _ (Old.refl _) rfl)
    go_simp
   case s10 =>
    intro _ val w2 ho hw K hK
    have d : val 9 = Tx (w.heap.size + 1 + 1) := hw ⟨9, .data⟩ (by simp) rfl
    refine wp_value (v := .agg #[Tx (w.heap.size + 1 + 1), Fv 142, Fv 143, Fv 144, Fv 145]) (w' := w2) ?_ (hK _ _ (Old.refl _) rfl)
    go_simp
   case s11 =>
    intro _ val w2 ho hw K hK
    have ld := ho.cell HF.out
    refine wp_value (v := Fv 131) (w' := w2) ?_ (hK _ _ (Old.refl _) rfl)
    go_simp
   case s12 =>
    intro _ val w2 ho hw K hK
    have d : val 11 = Fv 131 := hw ⟨11, .data⟩ (by simp) rfl
    refine wp_value (v := .agg #[Fv 131, Fv 146, Fv 147, Fv 144, Fv 145]) (w' := w2) ?_ (hK _ _ (Old.refl _) rfl)
    go_simp
   case s13 =>
    intro _ val w2 ho hw K hK
    obtain ⟨f1, d1, p1⟩ : ∃ f1, val 2 = .agg (#[f1, Fv 132, Fv 134, Fv 135, Fv 136]) ∧ IsPl 0 1 f1 w2 := hw ⟨2, .data⟩ (by simp) rfl
    obtain ⟨f2, d2, p2⟩ : ∃ f2, val 5 = .agg (#[f2, Fv 137, Fv 138, Fv 139, Fv 140]) ∧ IsPl (-2147483648) 2147483647 f2 w2 := hw ⟨5, .data⟩ (by simp) rfl
    obtain ⟨f3, d3, p3⟩ : ∃ f3, val 8 = .agg (#[f3, Fv 137, Fv 138, Fv 139, Fv 140]) ∧ IsPl (-9223372036854775808) 9223372036854775807 f3 w2 := hw ⟨8, .data⟩ (by simp) rfl
    have d4 : val 10 = .agg (#[Tx (w.heap.size + 1 + 1), Fv 142, Fv 143, Fv 144, Fv 145]) := hw ⟨10, .data⟩ (by simp) rfl
    have d5 : val 12 = .agg (#[Fv 131, Fv 146, Fv 147, Fv 144, Fv 145]) := hw ⟨12, .data⟩ (by simp) rfl
    obtain ⟨p1', q1', hv1, _, _⟩ := id p1
    obtain ⟨p2', q2', hv2, _, _⟩ := id p2
    obtain ⟨p3', q3', hv3, _, _⟩ := id p3
    refine wp_value (v := .agg (ofTab f1 f2 f3 (w.heap.size + 1 + 1)).toArray) (w' := w2) ?_ (hK _ _ (Old.refl _) ⟨f1, f2, f3, rfl, p1, p2, p3⟩)
    unfold ofTab
    go_simp
   case s14 =>
    intro _ val w2 ho hw K hK
    refine wp_value (v := .pointer (some ⟨w2.heap.size, 0, none⟩)) (w' := w2.alloc (.cells nil30 185)) ?_ (hK _ _ (Old.alloc (Old.refl _) _) ⟨w2.heap.size, rfl, ho.size, heap_alloc_new _ _⟩)
    unfold nil30
    go_simp
 · intro oo hoo val w2 ho hg K hK
   obtain rfl : oo = _ := (Option.some.inj hoo).symm
   obtain ⟨f1, f2, f3, d13, p1, p2, p3⟩ := hg 13 (by decide)
   obtain ⟨g, d14, hgn, hgb⟩ := hg 14 (by decide)
   have hth : w2.there g 0 30 := by
    intro j hj
    refine ⟨?_, by simp [World.frozen?, hgb]⟩
    rw [cell_of_heap hgb]
    have : nil30.size = 30 := rfl
    simp [this, hj]
   have hg0 : w2.cell? ⟨g, 0, none⟩ = some .nilFunc := (cell_of_heap hgb).trans rfl
   have hgs : ∀ p v, w2.cell? ⟨p, 0, none⟩ = some v → p ≠ g → (w2.setCells g 0 (ofTab f1 f2 f3 (w.heap.size + 1 + 1))).cell? ⟨p, 0, none⟩ = some v := by
    intro p v h hp
    rw [World.cell?_setCells_out g _ 0 w2 ⟨p, 0, none⟩ (fun hb => absurd hb hp)]
    exact h
   refine wp_store_mid 185 _ _ rfl g 0 (ofTab f1 f2 f3 (w.heap.size + 1 + 1)).toArray d14 d13 (by simpa [ofTab] using hth) tabInfo (by obtain ⟨p1', q1', hv1, _, _⟩ := p1; obtain ⟨p2', q2', hv2, _, _⟩ := p2; obtain ⟨p3', q3', hv3, _, _⟩ := p3; simp [ofTab, Value.oneCell', hv1, hv2, hv3]) (hK _ _ ?_)
   obtain ⟨w4, hw4⟩ : ∃ w4, w4 = w2.setCells g 0 (ofTab f1 f2 f3 (w.heap.size + 1 + 1)) := ⟨_, rfl⟩
   have hb1 : w.heap.size + 1 ≠ g := by omega
   have hb2 : w.heap.size + 1 + 1 ≠ g := by omega
   have x0 : w4.cell? ⟨w.heap.size, 0, none⟩ = some (.int .i64 (k : Int)) := by rw [hw4]; exact hgs _ _ (ho.cell HK0.out) (by omega)
   have xf : w4.cell? ⟨w.heap.size + 1 + 1, 0, none⟩ = some (Fv 131) := by rw [hw4]; exact hgs _ _ (ho.cell HF.out) hb2
   have tb : ∀ j v, (ofTab f1 f2 f3 (w.heap.size + 1 + 1))[j]? = some v → w4.cell? ⟨g, j, none⟩ = some v := by
    intro j v h
    have := World.rangeAt_setCells_same w2 g 0 (ofTab f1 f2 f3 (w.heap.size + 1 + 1)) (by simpa [ofTab] using hth) j v h
    rw [Nat.zero_add] at this
    rw [hw4]
    exact this
   have hbh : w4.heap[w.heap.size + 1]? = some (.cells #[Value.nilFunc, Value.nilFunc, Value.nilFunc, Value.nilFunc, Value.nilFunc] 151) := by
    rw [hw4, setCells_heap_out _ _ _ _ _ hb1]
    exact heap_old HBH.out ho
   have b0 := cell_of_heap (i := 0) hbh
   have b1 := cell_of_heap (i := 1) hbh
   have b2 := cell_of_heap (i := 2) hbh
   have b3 := cell_of_heap (i := 3) hbh
   have b4 := cell_of_heap (i := 4) hbh
   have fz : ∀ j, w4.frozen? ⟨w.heap.size + 1, j, none⟩ = false := fun j => by simp [World.frozen?, hbh]
   have O4 : Hid (Old w w4) := hide (by rw [hw4]; exact old_setCells _ _ _ _ _ (Old.trans HO.out ho) (by omega))
   have P1 := hide (show IsPl 0 1 f1 w4 from by rw [hw4]; exact p1.set hg0 hgs)
   have P2 := hide (show IsPl (-2147483648) 2147483647 f2 w4 from by rw [hw4]; exact p2.set hg0 hgs)
   have P3 := hide (show IsPl (-9223372036854775808) 9223372036854775807 f3 w4 from by rw [hw4]; exact p3.set hg0 hgs)
   obtain ⟨p1', q1', rfl, _, _⟩ := id p1
   obtain ⟨p2', q2', rfl, _, _⟩ := id p2
   obtain ⟨p3', q3', rfl, _, _⟩ := id p3
   rw [← hw4, d13, d14]
   clear hw4 d13 hgs hgb hth hg0 hg p1 p2 p3
   have t5 := tb 5 _ rfl
   have t6 := tb 6 _ rfl
   have t7 := tb 7 _ rfl
   have t8 := tb 8 _ rfl
   have t9 := tb 9 _ rfl
   have t10 := tb 10 _ rfl
   have t11 := tb 11 _ rfl
   have t12 := tb 12 _ rfl
   have t13 := tb 13 _ rfl
   have t14 := tb 14 _ rfl
   have t15 := tb 15 _ rfl
   have t16 := tb 16 _ rfl
   have t17 := tb 17 _ rfl
   have t18 := tb 18 _ rfl
   have t19 := tb 19 _ rfl
   have t20 := tb 20 _ rfl
   have t21 := tb 21 _ rfl
   have t22 := tb 22 _ rfl
   have t23 := tb 23 _ rfl
   have t24 := tb 24 _ rfl
   have t25 := tb 25 _ rfl
   have t26 := tb 26 _ rfl
   have t27 := tb 27 _ rfl
   have t28 := tb 28 _ rfl
   have t29 := tb 29 _ rfl
   clear tb
   have XF := hide xf
   clear xf
   have hk : k = 1 ∨ k = 2 ∨ k = 3 ∨ k = 4 ∨ k = 5 := by omega
   rcases hk with rfl | rfl | rfl | rfl | rfl
   all_goals
    go_wp2_with fail
    refine bodyPost_ret (results_cell_row rfl _ _ (w.heap.size + 1) _ _ _ _ rfl (set5_heap hbh _ _ _ _ _) Tryz.underlying151 rfl kindInfo) rfl ?_
    exact ⟨_, rfl, of_end5 (B := w.heap.size + 1) (b := w.heap.size + 1 + 1) _ O4.out (Nat.le_succ _) b0 P1.out P2.out P3.out XF.out _ _ _ _ _ rfl⟩
end Go.Proofs.YthlfljmfggmfdaaGreatDoor

/-! ###  -/
namespace Go.Proofs.YthlfljmfggmfdaaGreatDoor
open Go.RowKit
structure RuneAt (l : List UInt8) (r n : Nat) : Prop where
 pos : 1 ≤ n
 le : n ≤ l.length
 enc : Lib.encodeRune (r : Int) = l.take n
 high : 128 ≤ r → ∀ b ∈ l.take n, 128 ≤ b.toNat
 low : r < 128 → n = 1
 most : r ≤ 1114111
theorem enc_one {a : UInt8} {r : List UInt8} (h : a.toNat < 128) : RuneAt (a :: r) a.toNat 1 := by
 refine ⟨Nat.le_refl _, by simp, ?_, fun h' => by omega, fun _ => rfl, by omega⟩
 unfold Lib.encodeRune
 rw [Lib.encodeRuneZ_one (by omega) (by omega)]
 simp
theorem u8_eq {x : Int} {a : UInt8} (h : x = a.toNat) : x.toNat.toUInt8 = a := by
 subst h
 simp
theorem enc_two {a b : UInt8} {r : List UInt8} (h1 : a.toNat / 32 = 6) (h2 : b.toNat / 64 = 2) (h3 : 128 ≤ a.toNat % 32 * 64 + b.toNat % 64) : RuneAt (a :: b :: r) (a.toNat % 32 * 64 + b.toNat % 64) 2 := by
 refine ⟨by omega, by simp, ?_, fun _ x hx => ?_, fun h => by omega, by omega⟩
 · unfold Lib.encodeRune
   rw [Lib.encodeRuneZ_two (by omega) (by omega)]
   simp only [List.map_cons, List.map_nil, List.take_succ_cons, List.take_zero]
   rw [u8_eq (a := a) (by omega), u8_eq (a := b) (by omega)]
 · simp at hx
   rcases hx with rfl | rfl <;> omega
theorem enc_three {a b c : UInt8} {r : List UInt8} (h1 : a.toNat / 16 = 14) (h2 : b.toNat / 64 = 2) (h3 : c.toNat / 64 = 2) (h4 : 2048 ≤ a.toNat % 16 * 4096 + b.toNat % 64 * 64 + c.toNat % 64)
 (h5 : Utf8.valid ((a.toNat % 16 * 4096 + b.toNat % 64 * 64 + c.toNat % 64 : Nat) : Int) = true) : RuneAt (a :: b :: c :: r) (a.toNat % 16 * 4096 + b.toNat % 64 * 64 + c.toNat % 64) 3 := by
 have hv : (a.toNat % 16 * 4096 + b.toNat % 64 * 64 + c.toNat % 64) < 55296 ∨ 57343 < (a.toNat % 16 * 4096 + b.toNat % 64 * 64 + c.toNat % 64) := by
  rw [valid_scalar] at h5
  simp at h5
  omega
 have ha := a.toNat_lt
 refine ⟨by omega, by simp, ?_, fun _ x hx => ?_, fun h => by omega, by omega⟩
 · unfold Lib.encodeRune
   rw [Lib.encodeRuneZ_three (by omega)]
   simp only [List.map_cons, List.map_nil, List.take_succ_cons, List.take_zero]
   rw [u8_eq (a := a) (by omega), u8_eq (a := b) (by omega), u8_eq (a := c) (by omega)]
 · simp at hx
   rcases hx with rfl | rfl | rfl <;> omega
theorem enc_four {a b c d : UInt8} {r : List UInt8} (h1 : a.toNat / 8 = 30) (h2 : b.toNat / 64 = 2) (h3 : c.toNat / 64 = 2) (h6 : d.toNat / 64 = 2) (h4 : 65536 ≤ a.toNat % 8 * 262144 + b.toNat % 64 * 4096 + c.toNat % 64 * 64 + d.toNat % 64)
 (h5 : Utf8.valid ((a.toNat % 8 * 262144 + b.toNat % 64 * 4096 + c.toNat % 64 * 64 + d.toNat % 64 : Nat) : Int) = true) : RuneAt (a :: b :: c :: d :: r) (a.toNat % 8 * 262144 + b.toNat % 64 * 4096 + c.toNat % 64 * 64 + d.toNat % 64) 4 := by
 have hv : (a.toNat % 8 * 262144 + b.toNat % 64 * 4096 + c.toNat % 64 * 64 + d.toNat % 64) ≤ 1114111 := by
  rw [valid_scalar] at h5
  simp at h5
  omega
 have ha := a.toNat_lt
 refine ⟨by omega, by simp, ?_, fun _ x hx => ?_, fun h => by omega, hv⟩
 · unfold Lib.encodeRune
   rw [Lib.encodeRuneZ_four (by omega) (by omega)]
   simp only [List.map_cons, List.map_nil, List.take_succ_cons, List.take_zero]
   rw [u8_eq (a := a) (by omega), u8_eq (a := b) (by omega), u8_eq (a := c) (by omega), u8_eq (a := d) (by omega)]
 · simp at hx
   rcases hx with rfl | rfl | rfl | rfl <;> omega
theorem rune_at (l : List UInt8) (h : l ≠ []) (hb : ¬ ((Lib.decodeL l).1 = 65533 ∧ (Lib.decodeL l).2 = 1)) : RuneAt l (Lib.decodeL l).1 (Lib.decodeL l).2 := by
 have bad : ∀ P : Prop, ¬ ((65533 : Nat) = 65533 ∧ (1 : Nat) = 1) → P := fun P h => absurd ⟨rfl, rfl⟩ h
 have e : Lib.decodeL l = Utf8.decode (txt l) 0 := rfl
 rw [e] at hb ⊢
 match l, h with
 | [a], _ =>
   simp only [Utf8.decode, Utf8.runeError, txt_size, Nat.zero_add, show (txt [a]).get! 0 = a from rfl, List.length_cons, List.length_nil] at hb ⊢
   split at hb
   · rename_i h1
     rw [if_pos h1]
     exact enc_one h1
   · simp at hb
 | [a, b], _ =>
   simp only [Utf8.decode, Utf8.runeError, txt_size, Nat.zero_add, show (txt [a, b]).get! 0 = a from rfl, show (txt [a, b]).get! 1 = b from rfl, List.length_cons, List.length_nil] at hb ⊢
   split at hb
   · rename_i h1
     rw [if_pos h1]
     exact enc_one h1
   · rename_i h1
     rw [if_neg h1]
     split at hb
     · rename_i h2
       rw [if_pos h2]
       simp at h2
       split at hb
       · rename_i h3
         rw [if_pos h3]
         exact enc_two h2.1 h2.2 h3
       · exact bad _ hb
     · simp at hb
 | [a, b, c], _ =>
   simp only [Utf8.decode, Utf8.runeError, txt_size, Nat.zero_add, show (txt [a, b, c]).get! 0 = a from rfl, show (txt [a, b, c]).get! 1 = b from rfl, show (txt [a, b, c]).get! 2 = c from rfl, List.length_cons, List.length_nil] at hb ⊢
   split at hb
   · rename_i h1
     rw [if_pos h1]
     exact enc_one h1
   · rename_i h1
     rw [if_neg h1]
     split at hb
     · rename_i h2
       rw [if_pos h2]
       simp at h2
       split at hb
       · rename_i h3
         rw [if_pos h3]
         exact enc_two h2.1 h2.2 h3
       · exact bad _ hb
     · rename_i h2
       rw [if_neg h2]
       split at hb
       · rename_i h3
         rw [if_pos h3]
         simp at h3
         split at hb
         · rename_i h4
           rw [if_pos h4]
           rw [Bool.and_eq_true, decide_eq_true_eq] at h4
           exact enc_three h3.1.1 h3.1.2 h3.2 h4.1 h4.2
         · exact bad _ hb
       · simp at hb
 | a :: b :: c :: d :: r, _ =>
   simp only [Utf8.decode, Utf8.runeError, txt_size, Nat.zero_add, show (txt (a :: b :: c :: d :: r)).get! 0 = a from rfl, show (txt (a :: b :: c :: d :: r)).get! 1 = b from rfl, show (txt (a :: b :: c :: d :: r)).get! 2 = c from rfl, show (txt (a :: b :: c :: d :: r)).get! 3 = d from rfl, List.length_cons] at hb ⊢
   split at hb
   · rename_i h1
     rw [if_pos h1]
     exact enc_one h1
   · rename_i h1
     rw [if_neg h1]
     split at hb
     · rename_i h2
       rw [if_pos h2]
       simp at h2
       split at hb
       · rename_i h3
         rw [if_pos h3]
         exact enc_two h2.1 h2.2 h3
       · exact bad _ hb
     · rename_i h2
       rw [if_neg h2]
       split at hb
       · rename_i h3
         rw [if_pos h3]
         simp at h3
         split at hb
         · rename_i h4
           rw [if_pos h4]
           rw [Bool.and_eq_true, decide_eq_true_eq] at h4
           exact enc_three h3.1.1 h3.1.2 h3.2 h4.1 h4.2
         · exact bad _ hb
       · rename_i h3
         rw [if_neg h3]
         split at hb
         · rename_i h5
           rw [if_pos h5]
           simp at h5
           split at hb
           · rename_i h4
             rw [if_pos h4]
             rw [Bool.and_eq_true, decide_eq_true_eq] at h4
             exact enc_four h5.1.1.1 h5.1.1.2 h5.1.2 h5.2 h4.1 h4.2
           · exact bad _ hb
         · exact bad _ hb
theorem valid_step {l : List UInt8} (h : Lib.validD l = true) (hne : l ≠ []) : RuneAt l (Lib.decodeL l).1 (Lib.decodeL l).2 ∧ Lib.validD (l.drop (Lib.decodeL l).2) = true := by
 rw [Lib.validD_step l hne] at h
 split at h
 · cases h
 · rename_i hb
   exact ⟨rune_at l hne hb, h⟩
def twoOf (r : Nat) : Option Nat := if r = 34 then some 34 else if r = 92 then some 92 else if r = 8 then some 98 else if r = 12 then some 102 else if r = 10 then some 110 else if r = 13 then some 114 else if r = 9 then some 116 else none
theorem esc_rune {l : List UInt8} {r n : Nat} (h : RuneAt l r n) : escL (l.take n) = match twoOf r with
 | some c => [92, UInt8.ofNat c]
 | none => if r < 32 then [92, 117, 48, 48, hexB (r / 16), hexB (r % 16)] else Lib.encodeRune (r : Int) := by
 rcases Nat.lt_or_ge r 128 with h1 | h1
 · have hn := h.low h1
   subst hn
   have he := h.enc
   unfold Lib.encodeRune at he
   rw [Lib.encodeRuneZ_one (by omega) (by omega)] at he
   rw [h.enc.symm]
   unfold Lib.encodeRune
   rw [Lib.encodeRuneZ_one (by omega) (by omega)]
   simp only [List.map_cons, List.map_nil, Int.toNat_natCast]
   rw [escL_one]
   have ht : r.toUInt8.toNat = r := by simp; omega
   have hx : ∀ c : Nat, c < 128 → (r.toUInt8 = UInt8.ofNat c ↔ r = c) := by
    intro c hc
    constructor
    · intro e
      have := congrArg UInt8.toNat e
      rw [ht] at this
      simp at this
      omega
    · rintro rfl
      rfl
   have x34 : r.toUInt8 = 34 ↔ r = 34 := hx 34 (by omega)
   have x92 : r.toUInt8 = 92 ↔ r = 92 := hx 92 (by omega)
   have x8 : r.toUInt8 = 8 ↔ r = 8 := hx 8 (by omega)
   have x12 : r.toUInt8 = 12 ↔ r = 12 := hx 12 (by omega)
   have x10 : r.toUInt8 = 10 ↔ r = 10 := hx 10 (by omega)
   have x13 : r.toUInt8 = 13 ↔ r = 13 := hx 13 (by omega)
   have x9 : r.toUInt8 = 9 ↔ r = 9 := hx 9 (by omega)
   unfold esc1 twoOf
   simp only [x34, x92, x8, x12, x10, x13, x9, ht]
   by_cases c34 : r = 34
   · subst c34; rfl
   by_cases c92 : r = 92
   · subst c92; rfl
   by_cases c8 : r = 8
   · subst c8; rfl
   by_cases c12 : r = 12
   · subst c12; rfl
   by_cases c10 : r = 10
   · subst c10; rfl
   by_cases c13 : r = 13
   · subst c13; rfl
   by_cases c9 : r = 9
   · subst c9; rfl
   simp only [c34, c92, c8, c12, c10, c13, c9, or_self, if_false]
 · rw [escL_high (h.high h1), ← h.enc]
   have : twoOf r = none := by
    unfold twoOf
    repeat' split
    all_goals first | rfl | omega
   rw [this]
   simp only
   rw [if_neg (by omega)]
end Go.Proofs.YthlfljmfggmfdaaGreatDoor

/-! ###  -/
namespace Go.Proofs.YthlfljmfggmfdaaGreatDoor
open Go.RowKit
def dTwo : DataW Unit := .map [(.int .i32 8, .lit (.int .u8 98)), (.int .i32 9, .lit (.int .u8 116)), (.int .i32 10, .lit (.int .u8 110)), (.int .i32 12, .lit (.int .u8 102)), (.int .i32 13, .lit (.int .u8 114)), (.int .i32 34, .lit (.int .u8 34)), (.int .i32 92, .lit (.int .u8 92))]
theorem dTwo_has (r : Nat) : Maps.has dTwo (.int .i32 r) = (twoOf r).isSome := by
 unfold dTwo twoOf
 simp only [Maps.has, List.any_cons, List.any_nil, Lit.sameKey]
 repeat' split
 all_goals first | (subst_vars; rfl) | skip
 simp
 omega
theorem dTwo_at (r c : Nat) (h : twoOf r = some c) : dTwo.atKey (.int .i32 r) (.lit (.int .u8 0)) = .lit (.int .u8 c) := by
 unfold twoOf at h
 repeat' split at h
 all_goals first | (injection h with h; subst_vars; rfl) | cases h
abbrev MapTwo (b : Nat) (w : World) : Prop := w.ownsMap (H := Unit) Tryz.prog 21 (plainElem Tryz.prog 5) b 7 dTwo
theorem MapTwo.same {b : Nat} {w w' : World} (h : MapTwo b w) (e : ∀ o, w.heap[b]? = some o → w'.heap[b]? = some o) : MapTwo b w' := by
 obtain ⟨es, clock, hb, F, hs, hD⟩ := h
 exact ⟨es, clock, e _ hb, F, hs, hD⟩
set_option maxRecDepth 100000 in
set_option maxHeartbeats 1000000 in
theorem short_run (w : World) : Calls Tryz.prog 174 #[] w fun e w' => ∃ b, e = .returned (.map (some b)) ∧ w.heap.size ≤ b ∧ b < w'.heap.size ∧ MapTwo b w' ∧ Old w w' := by
 have hmm := @run_makeMap Tryz.prog
 have K := Maps.int_keyed Tryz.underlying21
 have O0 : Old w (w.alloc (.map #[] 0)) := Old.alloc (Old.refl _) _
 have own0 := World.ownsMap_made (H := Unit) w Tryz.prog 21 (plainElem Tryz.prog 5)
 obtain ⟨w1, r1, own1, g1⟩ := own0.update K Tryz.underlying214 (by unfold maxLen; omega) (key := .int .i32 34) (Maps.keyOf_int_mk Tryz.underlying21 (a := 34) (by decide)) (val := .int .u8 34) (plainElem_int Tryz.underlying5 (a := 34) (by decide))
 obtain ⟨w2, r2, own2, g2⟩ := own1.update K Tryz.underlying214 (by unfold maxLen; omega) (key := .int .i32 92) (Maps.keyOf_int_mk Tryz.underlying21 (a := 92) (by decide)) (val := .int .u8 92) (plainElem_int Tryz.underlying5 (a := 92) (by decide))
 obtain ⟨w3, r3, own3, g3⟩ := own2.update K Tryz.underlying214 (by unfold maxLen; omega) (key := .int .i32 8) (Maps.keyOf_int_mk Tryz.underlying21 (a := 8) (by decide)) (val := .int .u8 98) (plainElem_int Tryz.underlying5 (a := 98) (by decide))
 obtain ⟨w4, r4, own4, g4⟩ := own3.update K Tryz.underlying214 (by unfold maxLen; omega) (key := .int .i32 12) (Maps.keyOf_int_mk Tryz.underlying21 (a := 12) (by decide)) (val := .int .u8 102) (plainElem_int Tryz.underlying5 (a := 102) (by decide))
 obtain ⟨w5, r5, own5, g5⟩ := own4.update K Tryz.underlying214 (by unfold maxLen; omega) (key := .int .i32 10) (Maps.keyOf_int_mk Tryz.underlying21 (a := 10) (by decide)) (val := .int .u8 110) (plainElem_int Tryz.underlying5 (a := 110) (by decide))
 obtain ⟨w6, r6, own6, g6⟩ := own5.update K Tryz.underlying214 (by unfold maxLen; omega) (key := .int .i32 13) (Maps.keyOf_int_mk Tryz.underlying21 (a := 13) (by decide)) (val := .int .u8 114) (plainElem_int Tryz.underlying5 (a := 114) (by decide))
 obtain ⟨w7, r7, own7, g7⟩ := own6.update K Tryz.underlying214 (by unfold maxLen; omega) (key := .int .i32 9) (Maps.keyOf_int_mk Tryz.underlying21 (a := 9) (by decide)) (val := .int .u8 116) (plainElem_int Tryz.underlying5 (a := 116) (by decide))
 have st : ∀ {a b : World}, Old w a → a.grownBy b (some w.heap.size) → Old w b := fun ho hg => Below.grown ho hg ho.size fun k hk => by cases hk; exact Nat.le_refl _
 have O7 := hide (st (st (st (st (st (st (st O0 g1) g2) g3) g4) g5) g6) g7)
 have M7 := hide (show MapTwo w.heap.size w7 from own7)
 have L7 := hide (show w.heap.size < w7.heap.size from by obtain ⟨es, cl, hb, _⟩ := own7; exact (Array.getElem?_eq_some_iff.1 hb).1)
 clear own0 own1 own2 own3 own4 own5 own6 own7 g1 g2 g3 g4 g5 g6 g7 O0 st K
 go_enter Tryz.func174, Tryz.ntmps174
 go_wp2_with fail
 go_ret
 exact ⟨_, rfl, Nat.le_refl _, L7.out, M7.out, O7.out⟩
theorem dTwo_pair {x c : Int} (h : ∀ zd, dTwo.atKey (.int .i32 x) zd = .lit (.int .u8 c)) : (x = 8 ∧ c = 98) ∨ (x = 9 ∧ c = 116) ∨ (x = 10 ∧ c = 110) ∨ (x = 12 ∧ c = 102) ∨ (x = 13 ∧ c = 114) ∨ (x = 34 ∧ c = 34) ∨ (x = 92 ∧ c = 92) := by
 have key : ∀ es : List (Lit × DataW Unit), (DataW.map es).atKey (.int .i32 x) .nil = .lit (.int .u8 c) → ∃ p ∈ es, p.1.sameKey (.int .i32 x) = true ∧ p.2 = .lit (.int .u8 c) := by
  intro es he
  simp only [DataW.atKey] at he
  split at he
  · rename_i p hp
    exact ⟨p, List.mem_of_find?_eq_some hp, by have := List.find?_some hp; simpa using this, he⟩
  · cases he
 obtain ⟨p, hp, h1, h2⟩ := key _ (h .nil)
 simp only [List.mem_cons, List.not_mem_nil, or_false] at hp
 rcases hp with rfl | rfl | rfl | rfl | rfl | rfl | rfl <;> (simp [Lit.sameKey] at h1; injection h2 with h2; injection h2 with _ h2; omega)
end Go.Proofs.YthlfljmfggmfdaaGreatDoor
