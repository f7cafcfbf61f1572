/-  -/
import Derived.Test.YthlfljmfggmfdaaGreatDoorQf10
import Derived.Test.YthlfljmfggmfdaaGreatDoorQf07
import Derived.Deep.MidRow
import Derived.Deep.RegionWith
import Derived.Laws.EntriesVeiled
import Derived.Laws.Rows
/-! ###  -/
namespace Go.Proofs.YthlfljmfggmfdaaGreatDoor
open Go.RowKit
def coverB (ops : Array Oper) : Bool := (List.range (ops.size - 1)).all fun i => (List.range ops.size).any fun j => decide (i < j) && match ops[j]? with
 | some o => o.after.any fun e => Region.binds .any e && decide (e.on = i)
 | none => false
def Closed (ops : Array Oper) (listed : Array Bool) : Prop := ∀ i o, ops[i]? = some o → listed.getD i true = true → ∀ e ∈ o.after, Region.binds .any e = true → listed.getD e.on true = true
section
variable {P : Program} {ops : Array Oper} {Q : Exit → Act → World → Prop}
theorem cover_at (hc : coverB ops = true) {i : Nat} (hi : i + 1 < ops.size) : ∃ j o, i < j ∧ ops[j]? = some o ∧ ∃ e ∈ o.after, Region.binds .any e = true ∧ e.on = i := by
 have h := List.all_eq_true.1 hc i (List.mem_range.2 (by omega))
 obtain ⟨j, _, h2⟩ := List.any_eq_true.1 h
 simp only [Bool.and_eq_true, decide_eq_true_eq] at h2
 obtain ⟨h3, h4⟩ := h2
 cases ho : ops[j]? with
 | none => rw [ho] at h4; cases h4
 | some o =>
   rw [ho] at h4
   rw [Array.any_eq_true] at h4
   obtain ⟨k, hk, h5⟩ := h4
   simp only [Bool.and_eq_true, decide_eq_true_eq] at h5
   exact ⟨j, o, h3, ho, o.after[k], Array.getElem_mem hk, h5.1, h5.2⟩
theorem cover_all (hc : coverB ops = true) {listed : Array Bool} (hcl : Closed ops listed) {o : Oper} (ho : ops[ops.size - 1]? = some o) (hr : ∀ e ∈ o.after, Region.binds .any e = true → listed.getD e.on true = true) :
 ∀ k i, i + 1 + k = ops.size - 1 + 0 → listed.getD i true = true := by
 intro k
 induction k using Nat.strongRecOn with
 | _ k ih =>
   intro i hi
   obtain ⟨j, o', hj, hjo, e, he, hb, hon⟩ := cover_at hc (i := i) (by omega)
   have hjs : j < ops.size := (Array.getElem?_eq_some_iff.1 hjo).1
   by_cases hl : j = ops.size - 1
   · subst hl
     rw [ho] at hjo
     injection hjo with hjo
     subst hjo
     have := hr e he hb
     rwa [hon] at this
   · have h1 := ih (ops.size - 1 - (j + 1)) (by omega) j (by omega)
     have := hcl j o' hjo h1 e he hb
     rwa [hon] at this
theorem dag_last_go (lit : (Nat → Value) → Act) (Good : Nat → Value → World → Prop) (w0 : World) (hb : backB ops = true) (hc : coverB ops = true) (hn : 0 < ops.size)
 (hput : ∀ val i o v, ops[i]? = some o → i + 1 < ops.size → (lit val).put o.dst v = lit (updV val i v))
 (hmono : ∀ i v w w', Old w w' → Good i v w → Good i v w')
 (hstep : ∀ i o, ops[i]? = some o → i + 1 < ops.size → ∀ val w, Old w0 w → waits o (fun j => Good j (val j) w) → ∀ K : Act → World → Prop, (∀ v w', Old w w' → Good i v w' → K ((lit val).put o.dst v) w') → o.wp P (lit val) w K Q)
 (hlast : ∀ o, ops[ops.size - 1]? = some o → ∀ val w, Old w0 w → (∀ i, i + 1 < ops.size → Good i (val i) w) → ∀ K : Act → World → Prop, (∀ a' w', Q .normal a' w' → K a' w') → o.wp P (lit val) w K Q) :
 ∀ (fuel : Nat) (listed : Array Bool) (val : Nat → Value) (w : World), listed.size = ops.size → unl ops.size listed ≤ fuel → Old w0 w → Closed ops listed → listed.getD (ops.size - 1) true = false → (∀ i, i + 1 < ops.size → listed.getD i true = true → Good i (val i) w) →
  wpAny P .any ops Q fuel listed (lit val) w := by
 intro fuel
 induction fuel with
 | zero =>
   intro listed val w hs hu ho hcl hz hg
   have hall := unl_zero (Nat.le_zero.1 hu) (ops.size - 1) (by omega)
   rw [hz] at hall
   cases hall
 | succ fuel ih =>
   intro listed val w hs hu ho hcl hz hg
   refine ⟨fun hr => ?_, fun i hi => ?_⟩
   · have := ready_none hb hs hr (ops.size - 1) (by omega)
     rw [hz] at this
     cases this
   · obtain ⟨hi1, hi2⟩ := List.mem_filter.1 hi
     have hin := List.mem_range.1 hi1
     have hio : ops[i]? = some ops[i] := Array.getElem?_eq_getElem hin
     rw [hio] at hi2
     simp only [Bool.and_eq_true, Bool.not_eq_true', Option.map_some, Option.getD_some, Array.all_eq_true_iff_forall_mem] at hi2
     obtain ⟨hun, hdep⟩ := hi2
     have hx := List.all_eq_true.1 hb i hi1
     rw [hio] at hx
     simp only [Bool.and_eq_true, Array.all_eq_true_iff_forall_mem, Bool.or_eq_true, Bool.not_eq_true', decide_eq_true_eq] at hx
     have hguard : ops[i].guard = none := Option.isNone_iff_eq_none.1 hx.1
     have hdl : ∀ e ∈ ops[i].after, Region.binds .any e = true → listed.getD e.on true = true := by
      intro e he hbd
      have h1 := hdep e he
      rw [hbd] at h1
      have h2 : e.on < i := by
       rcases hx.2 e he with h | h
       · rw [hbd] at h; cases h
       · exact h
      have h3 : e.on < listed.size := by omega
      simp only [Array.getD, h3, dif_pos] at h1 ⊢
      simpa using h1
     unfold wpOp
     rw [hio]
     show if Region.wanted ops[i] (yielded ops (lit val).tmps) = true then _ else _
     rw [if_pos (by simp [Region.wanted, hguard])]
     by_cases hlst : i + 1 < ops.size
     · refine .inl (hstep i ops[i] hio hlst val w ho (fun e he hbd => ?_) _ (fun v w' ho' hgood => ?_))
       · have h2 : e.on < i := by
          rcases hx.2 e he with h | h
          · rw [hbd] at h; cases h
          · exact h
         exact hg e.on (by omega) (hdl e he hbd)
       · rw [hput val i ops[i] v hio hlst]
         refine ih _ _ _ (by simpa using hs) (by have := unl_set hs hin hun; omega) (ho.trans ho') (fun j o' hjo hl e he hbd => ?_) ?_ (fun j hj hl => ?_)
         · have hjs : j < ops.size := (Array.getElem?_eq_some_iff.1 hjo).1
           rw [getD_set _ _ _ _ (by omega)] at hl
           rw [getD_set _ _ _ _ (by omega)]
           by_cases hei : e.on = i
           · rw [if_pos hei]
           · rw [if_neg hei]
             by_cases hji : j = i
             · subst hji
               rw [hio] at hjo
               injection hjo with hjo
               subst hjo
               exact hdl e he hbd
             · rw [if_neg hji] at hl
               exact hcl j o' hjo hl e he hbd
         · rw [getD_set _ _ _ _ (by omega), if_neg (by omega)]
           exact hz
         · rw [getD_set _ _ _ _ (by omega)] at hl
           by_cases hji : j = i
           · subst hji
             rw [updV_same]
             exact hgood
           · rw [if_neg hji] at hl
             rw [updV_other hji]
             exact hmono _ _ _ _ ho' (hg j hj hl)
     · obtain rfl : i = ops.size - 1 := by omega
       have hall : ∀ j, j + 1 < ops.size → listed.getD j true = true := fun j hj => cover_all hc hcl hio hdl (ops.size - 1 - (j + 1)) j (by omega)
       refine .inl (hlast ops[ops.size - 1] hio val w ho (fun j hj => hg j hj (hall j hj)) _ (fun a' w' hq => ?_))
       have hdone : ∀ j, j < ops.size → (listed.setIfInBounds (ops.size - 1) true).getD j true = true := by
        intro j hj
        rw [getD_set _ _ _ _ (by omega)]
        by_cases hje : j = ops.size - 1
        · rw [if_pos hje]
        · rw [if_neg hje]
          exact hall j (by omega)
       have hnone : Region.ready .any ops (listed.setIfInBounds (ops.size - 1) true) = [] := by
        apply List.filter_eq_nil_iff.2
        intro j hj
        rw [hdone j (List.mem_range.1 hj)]
        simp
       cases fuel with
       | zero => exact ⟨hnone, hq⟩
       | succ fuel =>
         refine ⟨fun _ => hq, fun j hj => ?_⟩
         rw [hnone] at hj
         cases hj
theorem region_dag_last {l : List Oper} {id : Nat} {a0 : Act} {w0 : World} (lit : (Nat → Value) → Act) (val0 : Nat → Value) (Good : Nat → Value → World → Prop) (hm : P.follows .mixedOrders = true) (hb : backB l.toArray = true) (hc : coverB l.toArray = true) (hn : 0 < l.length) (h0 : lit val0 = a0)
 (hput : allFrom (fun i o => i + 1 < l.length → ∀ val v, (lit val).put o.dst v = lit (updV val i v)) 0 l)
 (hmono : ∀ i v w w', Old w w' → Good i v w → Good i v w')
 (hstep : allFrom (fun i o => i + 1 < l.length → ∀ val w, Old w0 w → waits o (fun j => Good j (val j) w) → ∀ K : Act → World → Prop, (∀ v w', Old w w' → Good i v w' → K ((lit val).put o.dst v) w') → o.wp P (lit val) w K Q) 0 l)
 (hlast : ∀ o, l[l.length - 1]? = some o → ∀ val w, Old w0 w → (∀ i, i + 1 < l.length → Good i (val i) w) → ∀ K : Act → World → Prop, (∀ a' w', Q .normal a' w' → K a' w') → o.wp P (lit val) w K Q) : (Code.region id l.toArray true).wp P Q a0 w0 := by
 refine wp_region_any hm ?_
 rw [← h0]
 refine dag_last_go (ops := l.toArray) lit Good w0 hb hc (by simpa using hn)
  (fun val i o v ho hi => by have := allFrom_at hput i o (by simpa using ho); rw [Nat.zero_add] at this; exact this (by simpa using hi) val v)
  hmono
  (fun i o ho hi => by have := allFrom_at hstep i o (by simpa using ho); rw [Nat.zero_add] at this; exact this (by simpa using hi))
  (fun o ho val w ho' hg => hlast o (by simpa using ho) val w ho' (fun i hi => hg i (by simpa using hi)))
  _ _ _ _ (by simp) ?_ ((Old.refl w0).drew) (fun i o hio hl => ?_) ?_ (fun i hi hl => ?_)
 · unfold unl
   have := List.length_filter_le (fun i => !(Array.replicate l.toArray.size false).getD i true) (List.range l.toArray.size)
   simpa using this
 · have hi : i < l.length := by simpa using (Array.getElem?_eq_some_iff.1 hio).1
   simp [hi] at hl
 · have : l.length - 1 < l.length := by omega
   simp [this]
 · have : i < l.length := by simpa using (show i < l.toArray.size by omega)
   simp [this] at hl
end
end Go.Proofs.YthlfljmfggmfdaaGreatDoor

/-! ###  -/
namespace Go.Proofs.YthlfljmfggmfdaaGreatDoor
open Go.RowKit
def IsPl (lo hi : Int) (v : Value) (w : World) : Prop := ∃ p q, v = .func (.func 130) #[] #[.pointer (some ⟨p, 0, none⟩), .pointer (some ⟨q, 0, none⟩)] ∧ w.cell? ⟨p, 0, none⟩ = some (.int .i64 lo) ∧ w.cell? ⟨q, 0, none⟩ = some (.int .i64 hi)
theorem IsPl.old {lo hi : Int} {v : Value} {w w' : World} (h : IsPl lo hi v w) (o : Old w w') : IsPl lo hi v w' := by
 obtain ⟨p, q, e, h1, h2⟩ := h
 exact ⟨p, q, e, o.cell h1, o.cell h2⟩
theorem IsPl.set {lo hi : Int} {v : Value} {w w' : World} {g : Nat} (h : IsPl lo hi v w) (hg : w.cell? ⟨g, 0, none⟩ = some .nilFunc) (hs : ∀ p v, w.cell? ⟨p, 0, none⟩ = some v → p ≠ g → w'.cell? ⟨p, 0, none⟩ = some v) : IsPl lo hi v w' := by
 obtain ⟨p, q, e, h1, h2⟩ := h
 refine ⟨p, q, e, hs _ _ h1 ?_, hs _ _ h2 ?_⟩
 · rintro rfl
   rw [hg] at h1
   cases h1
 · rintro rfl
   rw [hg] at h2
   cases h2
theorem plain_mk (lo hi : Int) (w : World) : Calls Tryz.prog 129 #[.int .i64 lo, .int .i64 hi] w fun e w' => ∃ v, e = .returned v ∧ IsPl lo hi v w' ∧ Old w w' := by
 go_enter Tryz.func129, Tryz.ntmps129
 go_wp2_with fail
 go_ret
 refine ⟨_, rfl, ⟨w.heap.size, w.heap.size + 1, rfl, ?_, ?_⟩, Old.alloc (Old.alloc (Old.refl _) _) _⟩
 · simp
 · simp
abbrev Fv (f : FuncId) : Value := .func (.func f) #[] #[]
abbrev Tx (b : Nat) : Value := .func (.func 141) #[] #[.pointer (some ⟨b, 0, none⟩)]
theorem heap_old {w w' : World} {g : Nat} {x : Obj} (h : w.heap[g]? = some x) (o : Old w w') : w'.heap[g]? = some x := by
 rw [o.block g (by
  rcases Nat.lt_or_ge g w.heap.size with hl | hl
  · exact hl
  · rw [Array.getElem?_eq_none hl] at h; cases h)]
 exact h
def ofL (f1 f2 f3 : Value) (b : Nat) : Nat → List Value
 | 1 => [f1, Fv 132, Fv 134, Fv 135, Fv 136]
 | 2 => [f2, Fv 137, Fv 138, Fv 139, Fv 140]
 | 3 => [f3, Fv 137, Fv 138, Fv 139, Fv 140]
 | 4 => [(Tx b), Fv 142, Fv 143, Fv 144, Fv 145]
 | 5 => [Fv 131, Fv 146, Fv 147, Fv 144, Fv 145]
 | _ => [.nilFunc, .nilFunc, .nilFunc, .nilFunc, .nilFunc]
def ofTab (f1 f2 f3 : Value) (b : Nat) : List Value := [.nilFunc, .nilFunc, .nilFunc, .nilFunc, .nilFunc, f1, Fv 132, Fv 134, Fv 135, Fv 136, f2, Fv 137, Fv 138, Fv 139, Fv 140, f3, Fv 137, Fv 138, Fv 139, Fv 140, (Tx b), Fv 142, Fv 143, Fv 144, Fv 145, Fv 131, Fv 146, Fv 147, Fv 144, Fv 145]
def nil30 : Array Value := #[.nilFunc, .nilFunc, .nilFunc, .nilFunc, .nilFunc, .nilFunc, .nilFunc, .nilFunc, .nilFunc, .nilFunc, .nilFunc, .nilFunc, .nilFunc, .nilFunc, .nilFunc, .nilFunc, .nilFunc, .nilFunc, .nilFunc, .nilFunc, .nilFunc, .nilFunc, .nilFunc, .nilFunc, .nilFunc, .nilFunc, .nilFunc, .nilFunc, .nilFunc, .nilFunc]
theorem setCell_heap_out (w : World) (a : Addr) (v : Value) (k : Nat) (h : k ≠ a.block) : (w.setCell a v).heap[k]? = w.heap[k]? := by
 simp only [World.setCell, Array.getElem?_modify]
 rw [if_neg (fun e => h e.symm)]
theorem setCells_heap_out (b : Nat) : ∀ (vs : List Value) (o : Nat) (w : World) (k : Nat), k ≠ b → (w.setCells b o vs).heap[k]? = w.heap[k]?
 | [], _, _, _, _ => rfl
 | v :: r, o, w, k, h => by
   show ((w.setCell ⟨b, o, none⟩ v).setCells b (o + 1) r).heap[k]? = _
   rw [setCells_heap_out b r _ _ k h, setCell_heap_out _ _ _ _ h]
theorem old_setCells (b : Nat) : ∀ (vs : List Value) (o : Nat) (w0 w : World), Old w0 w → w0.heap.size ≤ b → Old w0 (w.setCells b o vs)
 | [], _, _, _, h, _ => h
 | v :: r, o, w0, w, h, hb => old_setCells b r (o + 1) w0 (w.setCell ⟨b, o, none⟩ v) (Old.setCell h (p := ⟨b, o, none⟩) hb v) hb
def OfG (b n0 : Nat) : Nat → Value → World → Prop
 | 0, v, _ => v = Fv 129
 | 3, v, _ => v = Fv 129
 | 6, v, _ => v = Fv 129
 | 1, v, w => IsPl 0 1 v w
 | 2, v, w => ∃ f1, v = .agg (#[f1, Fv 132, Fv 134, Fv 135, Fv 136]) ∧ IsPl 0 1 f1 w
 | 4, v, w => IsPl (-2147483648) 2147483647 v w
 | 5, v, w => ∃ f2, v = .agg (#[f2, Fv 137, Fv 138, Fv 139, Fv 140]) ∧ IsPl (-2147483648) 2147483647 f2 w
 | 7, v, w => IsPl (-9223372036854775808) 9223372036854775807 v w
 | 8, v, w => ∃ f3, v = .agg (#[f3, Fv 137, Fv 138, Fv 139, Fv 140]) ∧ IsPl (-9223372036854775808) 9223372036854775807 f3 w
 | 9, v, _ => v = Tx b
 | 10, v, _ => v = .agg (#[(Tx b), Fv 142, Fv 143, Fv 144, Fv 145])
 | 11, v, _ => v = Fv 131
 | 12, v, _ => v = .agg (#[Fv 131, Fv 146, Fv 147, Fv 144, Fv 145])
 | 13, v, w => ∃ f1 f2 f3, v = .agg (ofTab f1 f2 f3 b).toArray ∧ IsPl 0 1 f1 w ∧ IsPl (-2147483648) 2147483647 f2 w ∧ IsPl (-9223372036854775808) 9223372036854775807 f3 w
 | 14, v, w => ∃ g, v = .pointer (some ⟨g, 0, none⟩) ∧ n0 ≤ g ∧ w.heap[g]? = some (.cells nil30 185)
 | _, _, _ => True
theorem OfG.old {b n0 : Nat} : ∀ {i : Nat} {v : Value} {w w' : World}, OfG b n0 i v w → Old w w' → OfG b n0 i v w'
 | 0, _, _, _, h, _ => h
 | 3, _, _, _, h, _ => h
 | 6, _, _, _, h, _ => h
 | 9, _, _, _, h, _ => h
 | 10, _, _, _, h, _ => h
 | 11, _, _, _, h, _ => h
 | 12, _, _, _, h, _ => h
 | 1, _, _, _, h, o => IsPl.old h o
 | 2, _, _, _, ⟨f, h1, h2⟩, o => ⟨f, h1, h2.old o⟩
 | 4, _, _, _, h, o => IsPl.old h o
 | 5, _, _, _, ⟨f, h1, h2⟩, o => ⟨f, h1, h2.old o⟩
 | 7, _, _, _, h, o => IsPl.old h o
 | 8, _, _, _, ⟨f, h1, h2⟩, o => ⟨f, h1, h2.old o⟩
 | 13, _, _, _, ⟨f1, f2, f3, h, h1, h2, h3⟩, o => ⟨f1, f2, f3, h, h1.old o, h2.old o, h3.old o⟩
 | 14, _, _, _, ⟨g, h, h1, h3⟩, o => ⟨g, h, h1, heap_old h3 o⟩
 | _ + 15, _, _, _, _, _ => True.intro
def OfIs (k : Nat) (v : Value) (w : World) : Prop := ∃ f1 f2 f3 b, v = .agg (ofL f1 f2 f3 b k).toArray ∧ IsPl 0 1 f1 w ∧ IsPl (-2147483648) 2147483647 f2 w ∧ IsPl (-9223372036854775808) 9223372036854775807 f3 w ∧ w.cell? ⟨b, 0, none⟩ = some (Fv 131)
theorem of_end {w w4 : World} {f1 f2 f3 : Value} {b B : Nat} (k : Nat) (O : Old w w4) (hB : w.heap.size ≤ B) (b0 : w4.cell? ⟨B, 0, none⟩ = some .nilFunc) (P1 : IsPl 0 1 f1 w4) (P2 : IsPl (-2147483648) 2147483647 f2 w4) (P3 : IsPl (-9223372036854775808) 9223372036854775807 f3 w4)
 (XF : w4.cell? ⟨b, 0, none⟩ = some (Fv 131)) (vs : List Value) : OfIs k (.agg (ofL f1 f2 f3 b k).toArray) (w4.setCells B 0 vs) ∧ Old w (w4.setCells B 0 vs) := by
 have hs : ∀ p v, w4.cell? ⟨p, 0, none⟩ = some v → p ≠ B → (w4.setCells B 0 vs).cell? ⟨p, 0, none⟩ = some v := by
  intro p v h hp
  rw [World.cell?_setCells_out B _ 0 w4 ⟨p, 0, none⟩ (fun hb => absurd hb hp)]
  exact h
 refine ⟨⟨f1, f2, f3, b, rfl, P1.set b0 hs, P2.set b0 hs, P3.set b0 hs, hs _ _ XF ?_⟩, old_setCells _ _ _ _ _ O hB⟩
 rintro rfl
 rw [b0] at XF
 cases XF
theorem of_end5 {w w4 : World} {f1 f2 f3 : Value} {b B : Nat} (k : Nat) (O : Old w w4) (hB : w.heap.size ≤ B) (b0 : w4.cell? ⟨B, 0, none⟩ = some .nilFunc) (P1 : IsPl 0 1 f1 w4) (P2 : IsPl (-2147483648) 2147483647 f2 w4) (P3 : IsPl (-9223372036854775808) 9223372036854775807 f3 w4)
 (XF : w4.cell? ⟨b, 0, none⟩ = some (Fv 131)) (v0 v1 v2 v3 v4 : Value) (hv : ofL f1 f2 f3 b k = [v0, v1, v2, v3, v4]) :
 OfIs k (.agg #[v0, v1, v2, v3, v4]) (((((w4.setCell ⟨B, 0, none⟩ v0).setCell ⟨B, 1, none⟩ v1).setCell ⟨B, 2, none⟩ v2).setCell ⟨B, 3, none⟩ v3).setCell ⟨B, 4, none⟩ v4) ∧
  Old w (((((w4.setCell ⟨B, 0, none⟩ v0).setCell ⟨B, 1, none⟩ v1).setCell ⟨B, 2, none⟩ v2).setCell ⟨B, 3, none⟩ v3).setCell ⟨B, 4, none⟩ v4) := by
 have h := of_end k O hB b0 P1 P2 P3 XF [v0, v1, v2, v3, v4]
 rw [hv] at h
 exact h
theorem set5_heap {w : World} {B : Nat} {T : TypeId} {a0 a1 a2 a3 a4 : Value} (h : w.heap[B]? = some (.cells #[a0, a1, a2, a3, a4] T)) (v0 v1 v2 v3 v4 : Value) : (w.setCells B 0 [v0, v1, v2, v3, v4]).heap[B]? = some (.cells #[v0, v1, v2, v3, v4] T) := by
 simp [World.setCells, World.setCell, Array.getElem?_modify, h]
theorem kindInfo : (Tryz.prog.info? 151).map (·.size) = some 5 := by kernel_rfl
theorem tabInfo : (Tryz.prog.info? 185).map (·.size) = some 30 := by kernel_rfl
set_option maxRecDepth 100000 in
set_option maxHeartbeats 4000000 in
theorem of_run (k : Nat) (h1 : 1 ≤ k) (h5 : k ≤ 5) (nl : Bool) (w : World) : Calls Tryz.prog 107 #[Ty (k : Int) nl] w fun e w' => ∃ v, e = .returned v ∧ OfIs k v w' ∧ Old w w' := by
 go_enter Tryz.func107, Tryz.ntmps107
 go_wp2_with fail
 obtain ⟨W3, hW3⟩ : ∃ W3, W3 = ((w.alloc (Obj.cells #[Value.int IntKind.i64 (k : Int), Value.bool nl] 54)).alloc (Obj.cells #[Value.nilFunc, Value.nilFunc, Value.nilFunc, Value.nilFunc, Value.nilFunc] 151)).alloc (Obj.cells #[Value.func (Fn.func 131) #[] #[]] 146) := ⟨_, rfl⟩
 have HO : Hid (Old w W3) := hide (by rw [hW3]; exact Old.alloc (Old.alloc (Old.alloc (Old.refl _) _) _) _)
 have HS : W3.heap.size = w.heap.size + 1 + 1 + 1 := by rw [hW3]; simp
 have HK0 : Hid (W3.cell? ⟨w.heap.size, 0, none⟩ = some (.int .i64 (k : Int))) := hide (by rw [hW3]; simp [go_sem])
 have HBh : W3.heap[w.heap.size + 1]? = some (.cells #[Value.nilFunc, Value.nilFunc, Value.nilFunc, Value.nilFunc, Value.nilFunc] 151) := by
  rw [hW3]
  have h := heap_alloc_new (w.alloc (Obj.cells #[Value.int IntKind.i64 (k : Int), Value.bool nl] 54)) (Obj.cells #[Value.nilFunc, Value.nilFunc, Value.nilFunc, Value.nilFunc, Value.nilFunc] 151)
  rw [show (w.alloc (Obj.cells #[Value.int IntKind.i64 (k : Int), Value.bool nl] 54)).heap.size = w.heap.size + 1 by simp] at h
  exact heap_old h (Old.alloc (Old.refl _) _)
 have HF : Hid (W3.cell? ⟨w.heap.size + 1 + 1, 0, none⟩ = some (Fv 131)) := hide (by rw [hW3]; simp [go_sem])
 rw [← hW3]
 clear hW3
 have HBH := hide HBh
 clear HBh
 refine region_dag_last (fun val => ⟨#[Ty (k : Int) nl, Value.pointer (some { block := w.heap.size, off := 0 }), Value.pointer (some { block := w.heap.size + 1, off := 0 }), Fv 129, Value.pointer (some { block := w.heap.size + 1 + 1, off := 0 }), val 14, val 0, val 1, val 2, val 3, val 4, val 5, val 6, val 7, val 8, val 9, val 10, val 11, val 12, val 13, undef, undef, undef, undef], []⟩) (fun _ => undef) (OfG (w.heap.size + 1 + 1) W3.heap.size) (by kernel_rfl) (by kernel_rfl) (by kernel_rfl) (by decide) rfl ?_ (fun i v w' w'' o h => OfG.old h o) ?_ ?_
 · repeat' (first | exact True.intro | refine And.intro (fun _ _ _ => rfl) ?_)
   all_goals (refine And.intro (fun h => absurd h (by decide)) ?_; exact True.intro)
 · refine ⟨?s0, ?s1, ?s2, ?s3, ?s4, ?s5, ?s6, ?s7, ?s8, ?s9, ?s10, ?s11, ?s12, ?s13, ?s14, fun h => absurd h (by decide), True.intro⟩
   case s0 =>
    intro _ val w2 ho hw K hK
    refine wp_value (v := Fv 129) (w' := w2) ?_ (hK _ _ (Old.refl _) rfl)
    go_simp
   case s3 =>
    intro _ val w2 ho hw K hK
    refine wp_value (v := Fv 129) (w' := w2) ?_ (hK _ _ (Old.refl _) rfl)
    go_simp
   case s6 =>
    intro _ val w2 ho hw K hK
    refine wp_value (v := Fv 129) (w' := w2) ?_ (hK _ _ (Old.refl _) rfl)
    go_simp
   case s1 =>
    intro _ val w2 ho hw K hK
    have d : val 0 = Fv 129 := hw ⟨0, .data⟩ (by simp) rfl
    refine wp_enter (f := 129) (args := #[.int .i64 0, .int .i64 1]) (w' := w2) ?_ ((plain_mk 0 1 w2).mono fun e w3 ⟨v, he, hp, o⟩ => ⟨v, he, hK _ _ o hp⟩)
    go_simp
   case s2 =>
    intro _ val w2 ho hw K hK
    have d : IsPl 0 1 (val 1) w2 := hw ⟨1, .data⟩ (by simp) rfl
    obtain ⟨p, q, hv, _, _⟩ := id d
    refine wp_value (v := .agg #[val 1, Fv 132, Fv 134, Fv 135, Fv 136]) (w' := w2) ?_ (hK _ _ (Old.refl _) ⟨val 1, rfl, d⟩)
    go_simp
   case s4 =>
    intro _ val w2 ho hw K hK
    have d : val 3 = Fv 129 := hw ⟨3, .data⟩ (by simp) rfl
    refine wp_enter (f := 129) (args := #[.int .i64 (-2147483648), .int .i64 2147483647]) (w' := w2) ?_ ((plain_mk (-2147483648) 2147483647 w2).mono fun e w3 ⟨v, he, hp, o⟩ => ⟨v, he, hK _ _ o hp⟩)
    go_simp
   case s5 =>
    intro _ val w2 ho hw K hK
    have d : IsPl (-2147483648) 2147483647 (val 4) w2 := hw ⟨4, .data⟩ (by simp) rfl
    obtain ⟨p, q, hv, _, _⟩ := id d
    refine wp_value (v := .agg #[val 4, Fv 137, Fv 138, Fv 139, Fv 140]) (w' := w2) ?_ (hK _ _ (Old.refl _) ⟨val 4, rfl, d⟩)
    go_simp
   case s7 =>
    intro _ val w2 ho hw K hK
    have d : val 6 = Fv 129 := hw ⟨6, .data⟩ (by simp) rfl
    refine wp_enter (f := 129) (args := #[.int .i64 (-9223372036854775808), .int .i64 9223372036854775807]) (w' := w2) ?_ ((plain_mk (-9223372036854775808) 9223372036854775807 w2).mono fun e w3 ⟨v, he, hp, o⟩ => ⟨v, he, hK _ _ o hp⟩)
    go_simp
   case s8 =>
    intro _ val w2 ho hw K hK
    have d : IsPl (-9223372036854775808) 9223372036854775807 (val 7) w2 := hw ⟨7, .data⟩ (by simp) rfl
    obtain ⟨p, q, hv, _, _⟩ := id d
    refine wp_value (v := .agg #[val 7, Fv 137, Fv 138, Fv 139, Fv 140]) (w' := w2) ?_ (hK _ _ (Old.refl _) ⟨val 7, rfl, d⟩)
    go_simp
   case s9 =>
    intro _ val w2 ho hw K hK
    refine wp_value (v := Tx (w.heap.size + 1 + 1)) (w' := w2) ?_ (hK _ _ (Old.refl _) rfl)
    go_simp
   case s10 =>
    intro _ val w2 ho hw K hK
    have d : val 9 = Tx (w.heap.size + 1 + 1) := hw ⟨9, .data⟩ (by simp) rfl
    refine wp_value (v := .agg #[Tx (w.heap.size + 1 + 1), Fv 142, Fv 143, Fv 144, Fv 145]) (w' := w2) ?_ (hK _ _ (Old.refl _) rfl)
    go_simp
   case s11 =>
    intro _ val w2 ho hw K hK
    have ld := ho.cell HF.out
    refine wp_value (v := Fv 131) (w' := w2) ?_ (hK _ _ (Old.refl _) rfl)
    go_simp
   case s12 =>
    intro _ val w2 ho hw K hK
    have d : val 11 = Fv 131 := hw ⟨11, .data⟩ (by simp) rfl
    refine wp_value (v := .agg #[Fv 131, Fv 146, Fv 147, Fv 144, Fv 145]) (w' := w2) ?_ (hK _ _ (Old.refl _) rfl)
    go_simp
   case s13 =>
    intro _ val w2 ho hw K hK
    obtain ⟨f1, d1, p1⟩ : ∃ f1, val 2 = .agg (#[f1, Fv 132, Fv 134, Fv 135, Fv 136]) ∧ IsPl 0 1 f1 w2 := hw ⟨2, .data⟩ (by simp) rfl
    obtain ⟨f2, d2, p2⟩ : ∃ f2, val 5 = .agg (#[f2, Fv 137, Fv 138, Fv 139, Fv 140]) ∧ IsPl (-2147483648) 2147483647 f2 w2 := hw ⟨5, .data⟩ (by simp) rfl
    obtain ⟨f3, d3, p3⟩ : ∃ f3, val 8 = .agg (#[f3, Fv 137, Fv 138, Fv 139, Fv 140]) ∧ IsPl (-9223372036854775808) 9223372036854775807 f3 w2 := hw ⟨8, .data⟩ (by simp) rfl
    have d4 : val 10 = .agg (#[Tx (w.heap.size + 1 + 1), Fv 142, Fv 143, Fv 144, Fv 145]) := hw ⟨10, .data⟩ (by simp) rfl
    have d5 : val 12 = .agg (#[Fv 131, Fv 146, Fv 147, Fv 144, Fv 145]) := hw ⟨12, .data⟩ (by simp) rfl
    obtain ⟨p1', q1', hv1, _, _⟩ := id p1
    obtain ⟨p2', q2', hv2, _, _⟩ := id p2
    obtain ⟨p3', q3', hv3, _, _⟩ := id p3
    refine wp_value (v := .agg (ofTab f1 f2 f3 (w.heap.size + 1 + 1)).toArray) (w' := w2) ?_ (hK _ _ (Old.refl _) ⟨f1, f2, f3, rfl, p1, p2, p3⟩)
    unfold ofTab
    go_simp
   case s14 =>
    intro _ val w2 ho hw K hK
    refine wp_value (v := .pointer (some ⟨w2.heap.size, 0, none⟩)) (w' := w2.alloc (.cells nil30 185)) ?_ (hK _ _ (Old.alloc (Old.refl _) _) ⟨w2.heap.size, rfl, ho.size, heap_alloc_new _ _⟩)
    unfold nil30
    go_simp
 · intro oo hoo val w2 ho hg K hK
   obtain rfl : oo = _ := (Option.some.inj hoo).symm
   obtain ⟨f1, f2, f3, d13, p1, p2, p3⟩ := hg 13 (by decide)
   obtain ⟨g, d14, hgn, hgb⟩ := hg 14 (by decide)
   have hth : w2.there g 0 30 := by
    intro j hj
    refine ⟨?_, by simp [World.frozen?, hgb]⟩
    rw [cell_of_heap hgb]
    have : nil30.size = 30 := rfl
    simp [this, hj]
   have hg0 : w2.cell? ⟨g, 0, none⟩ = some .nilFunc := (cell_of_heap hgb).trans rfl
   have hgs : ∀ p v, w2.cell? ⟨p, 0, none⟩ = some v → p ≠ g → (w2.setCells g 0 (ofTab f1 f2 f3 (w.heap.size + 1 + 1))).cell? ⟨p, 0, none⟩ = some v := by
    intro p v h hp
    rw [World.cell?_setCells_out g _ 0 w2 ⟨p, 0, none⟩ (fun hb => absurd hb hp)]
    exact h
   refine wp_store_mid 185 _ _ rfl g 0 (ofTab f1 f2 f3 (w.heap.size + 1 + 1)).toArray d14 d13 (by simpa [ofTab] using hth) tabInfo (by obtain ⟨p1', q1', hv1, _, _⟩ := p1; obtain ⟨p2', q2', hv2, _, _⟩ := p2; obtain ⟨p3', q3', hv3, _, _⟩ := p3; simp [ofTab, Value.oneCell', hv1, hv2, hv3]) (hK _ _ ?_)
   obtain ⟨w4, hw4⟩ : ∃ w4, w4 = w2.setCells g 0 (ofTab f1 f2 f3 (w.heap.size + 1 + 1)) := ⟨_, rfl⟩
   have hb1 : w.heap.size + 1 ≠ g := by omega
   have hb2 : w.heap.size + 1 + 1 ≠ g := by omega
   have x0 : w4.cell? ⟨w.heap.size, 0, none⟩ = some (.int .i64 (k : Int)) := by rw [hw4]; exact hgs _ _ (ho.cell HK0.out) (by omega)
   have xf : w4.cell? ⟨w.heap.size + 1 + 1, 0, none⟩ = some (Fv 131) := by rw [hw4]; exact hgs _ _ (ho.cell HF.out) hb2
   have tb : ∀ j v, (ofTab f1 f2 f3 (w.heap.size + 1 + 1))[j]? = some v → w4.cell? ⟨g, j, none⟩ = some v := by
    intro j v h
    have := World.rangeAt_setCells_same w2 g 0 (ofTab f1 f2 f3 (w.heap.size + 1 + 1)) (by simpa [ofTab] using hth) j v h
    rw [Nat.zero_add] at this
    rw [hw4]
    exact this
   have hbh : w4.heap[w.heap.size + 1]? = some (.cells #[Value.nilFunc, Value.nilFunc, Value.nilFunc, Value.nilFunc, Value.nilFunc] 151) := by
    rw [hw4, setCells_heap_out _ _ _ _ _ hb1]
    exact heap_old HBH.out ho
   have b0 := cell_of_heap (i := 0) hbh
   have b1 := cell_of_heap (i := 1) hbh
   have b2 := cell_of_heap (i := 2) hbh
   have b3 := cell_of_heap (i := 3) hbh
   have b4 := cell_of_heap (i := 4) hbh
   have fz : ∀ j, w4.frozen? ⟨w.heap.size + 1, j, none⟩ = false := fun j => by simp [World.frozen?, hbh]
   have O4 : Hid (Old w w4) := hide (by rw [hw4]; exact old_setCells _ _ _ _ _ (Old.trans HO.out ho) (by omega))
   have P1 := hide (show IsPl 0 1 f1 w4 from by rw [hw4]; exact p1.set hg0 hgs)
   have P2 := hide (show IsPl (-2147483648) 2147483647 f2 w4 from by rw [hw4]; exact p2.set hg0 hgs)
   have P3 := hide (show IsPl (-9223372036854775808) 9223372036854775807 f3 w4 from by rw [hw4]; exact p3.set hg0 hgs)
   obtain ⟨p1', q1', rfl, _, _⟩ := id p1
   obtain ⟨p2', q2', rfl, _, _⟩ := id p2
   obtain ⟨p3', q3', rfl, _, _⟩ := id p3
   rw [← hw4, d13, d14]
   clear hw4 d13 hgs hgb hth hg0 hg p1 p2 p3
   have t5 := tb 5 _ rfl
   have t6 := tb 6 _ rfl
   have t7 := tb 7 _ rfl
   have t8 := tb 8 _ rfl
   have t9 := tb 9 _ rfl
   have t10 := tb 10 _ rfl
   have t11 := tb 11 _ rfl
   have t12 := tb 12 _ rfl
   have t13 := tb 13 _ rfl
   have t14 := tb 14 _ rfl
   have t15 := tb 15 _ rfl
   have t16 := tb 16 _ rfl
   have t17 := tb 17 _ rfl
   have t18 := tb 18 _ rfl
   have t19 := tb 19 _ rfl
   have t20 := tb 20 _ rfl
   have t21 := tb 21 _ rfl
   have t22 := tb 22 _ rfl
   have t23 := tb 23 _ rfl
   have t24 := tb 24 _ rfl
   have t25 := tb 25 _ rfl
   have t26 := tb 26 _ rfl
   have t27 := tb 27 _ rfl
   have t28 := tb 28 _ rfl
   have t29 := tb 29 _ rfl
   clear tb
   have XF := hide xf
   clear xf
   have hk : k = 1 ∨ k = 2 ∨ k = 3 ∨ k = 4 ∨ k = 5 := by omega
   rcases hk with rfl | rfl | rfl | rfl | rfl
   all_goals
    go_wp2_with fail
    refine bodyPost_ret (results_cell_row rfl _ _ (w.heap.size + 1) _ _ _ _ rfl (set5_heap hbh _ _ _ _ _) Tryz.underlying151 rfl kindInfo) rfl ?_
    exact ⟨_, rfl, of_end5 (B := w.heap.size + 1) (b := w.heap.size + 1 + 1) _ O4.out (Nat.le_succ _) b0 P1.out P2.out P3.out XF.out _ _ _ _ _ rfl⟩
end Go.Proofs.YthlfljmfggmfdaaGreatDoor
