/- A region that draws its order, each operation shown once: what an operation leaves need hang only on those that it waits for, and stands in all later worlds. No program is named here. -/
import Derived.Test.YtmfbblcipakaiaaGreatDoorMem
import Derived.RegionTactic
namespace Go.Proofs.YtmfbblcipakaiaaGreatDoor
open Go.RowKit

def updV (val : Nat → Value) (i : Nat) (v : Value) : Nat → Value := fun j => if j = i then v else val j
theorem updV_same (val : Nat → Value) (i : Nat) (v : Value) : updV val i v i = v := if_pos rfl
theorem updV_other {val : Nat → Value} {i j : Nat} {v : Value} (h : j ≠ i) : updV val i v j = val j := if_neg h
/-- what is not listed yet -/
def unl (n : Nat) (listed : Array Bool) : Nat := ((List.range n).filter fun i => !listed.getD i true).length
theorem getD_set (listed : Array Bool) (i j : Nat) (d : Bool) (hi : i < listed.size) : (listed.setIfInBounds i true).getD j d = if j = i then true else listed.getD j d := by
  by_cases h : j = i
  · subst h
    rw [if_pos rfl]
    simp [Array.getD, hi]
  · rw [if_neg h]
    simp only [Array.getD, Array.size_setIfInBounds]
    split
    · rename_i hj
      exact Array.getElem_setIfInBounds_ne hj (fun e => h e.symm)
    · rfl
theorem unl_set {n i : Nat} {listed : Array Bool} (hs : listed.size = n) (hi : i < n) (h : listed.getD i true = false) : unl n (listed.setIfInBounds i true) < unl n listed := by
  unfold unl
  have e : ((List.range n).filter fun k => !(listed.setIfInBounds i true).getD k true) = (((List.range n).filter fun k => !listed.getD k true).filter fun k => decide (k ≠ i)) := by
    rw [List.filter_filter]
    apply List.filter_congr
    intro k _
    rw [getD_set listed i k true (by omega)]
    by_cases hk : k = i
    · simp [hk]
    · simp [hk]
  rw [e]
  apply List.length_filter_lt_length_iff_exists.2
  exact ⟨i, List.mem_filter.2 ⟨List.mem_range.2 hi, by rw [h]; rfl⟩, by simp⟩
theorem unl_zero {n : Nat} {listed : Array Bool} (h : unl n listed = 0) : ∀ i, i < n → listed.getD i true = true := by
  intro i hi
  unfold unl at h
  have := List.filter_eq_nil_iff.1 (List.eq_nil_of_length_eq_zero h) i (List.mem_range.2 hi)
  simpa using this
/-- the edges lead back -/
def backB (ops : Array Oper) : Bool := (List.range ops.size).all fun i => match ops[i]? with
  | some o => o.guard.isNone && o.after.all fun e => decide (e.on < i)
  | none => true
section
variable {P : Program} {ops : Array Oper} {Q : Exit → Act → World → Prop}
theorem ready_none (hb : backB ops = true) {listed : Array Bool} (hs : listed.size = ops.size) (hr : Region.ready .any ops listed = []) : ∀ i, i < ops.size → listed.getD i true = true := by
  intro i
  induction i using Nat.strongRecOn with
  | _ i ih =>
    intro hi
    cases hl : listed.getD i true
    · exfalso
      have hx := List.all_eq_true.1 hb i (List.mem_range.2 hi)
      rw [Array.getElem?_eq_getElem hi] at hx
      simp only [Bool.and_eq_true, Array.all_eq_true_iff_forall_mem, decide_eq_true_eq] at hx
      have := List.filter_eq_nil_iff.1 hr i (List.mem_range.2 hi)
      apply this
      rw [hl, Array.getElem?_eq_getElem hi]
      simp only [Option.map_some, Option.getD_some, Bool.not_false, Bool.true_and, Array.all_eq_true_iff_forall_mem]
      intro e he
      have h1 := hx.2 e he
      have h2 := ih e.on h1 (by omega)
      have h3 : listed.getD e.on false = true := by
        have hb : e.on < listed.size := by omega
        simp only [Array.getD, hb, dif_pos] at h2 ⊢
        exact h2
      simp [h3]
    · rfl
/-- what an operation waits for has been done -/
def waits (o : Oper) (p : Nat → Prop) : Prop := ∀ e ∈ o.after, Region.binds .any e = true → p e.on
theorem dag_go (lit : (Nat → Value) → Act) (Good : Nat → Value → World → Prop) (w0 : World) (hb : backB ops = true)
    (hput : ∀ val i o v, ops[i]? = some o → (lit val).put o.dst v = lit (updV val i v))
    (hmono : ∀ i v w w', Old w w' → Good i v w → Good i v w')
    (hstep : ∀ i o, ops[i]? = some o → ∀ val w, Old w0 w → waits o (fun j => Good j (val j) w) → ∀ K : Act → World → Prop, (∀ v w', Old w w' → Good i v w' → K ((lit val).put o.dst v) w') → o.wp P (lit val) w K Q)
    (hend : ∀ val w, Old w0 w → (∀ i, i < ops.size → Good i (val i) w) → Q .normal (lit val) w) :
    ∀ (fuel : Nat) (listed : Array Bool) (val : Nat → Value) (w : World), listed.size = ops.size → unl ops.size listed ≤ fuel → Old w0 w → (∀ i, i < ops.size → listed.getD i true = true → Good i (val i) w) →
      wpAny P .any ops Q fuel listed (lit val) w := by
  intro fuel
  induction fuel with
  | zero =>
    intro listed val w hs hu ho hg
    have hall := unl_zero (Nat.le_zero.1 hu)
    refine ⟨?_, hend val w ho (fun i hi => hg i hi (hall i hi))⟩
    apply List.filter_eq_nil_iff.2
    intro i hi
    rw [hall i (List.mem_range.1 hi)]
    simp
  | succ fuel ih =>
    intro listed val w hs hu ho hg
    refine ⟨fun hr => hend val w ho (fun i hi => hg i hi (ready_none hb hs hr i hi)), fun i hi => ?_⟩
    obtain ⟨hi1, hi2⟩ := List.mem_filter.1 hi
    have hin := List.mem_range.1 hi1
    have hio : ops[i]? = some ops[i] := Array.getElem?_eq_getElem hin
    rw [hio] at hi2
    simp only [Bool.and_eq_true, Bool.not_eq_true', Option.map_some, Option.getD_some, Array.all_eq_true_iff_forall_mem] at hi2
    obtain ⟨hun, hdep⟩ := hi2
    have hx := List.all_eq_true.1 hb i hi1
    rw [hio] at hx
    simp only [Bool.and_eq_true, Array.all_eq_true_iff_forall_mem, decide_eq_true_eq] at hx
    have hguard : ops[i].guard = none := Option.isNone_iff_eq_none.1 hx.1
    unfold wpOp
    rw [hio]
    show if Region.wanted ops[i] (yielded ops (lit val).tmps) = true then _ else _
    rw [if_pos (by simp [Region.wanted, hguard])]
    refine .inl (hstep i ops[i] hio val w ho (fun e he hbd => ?_) _ (fun v w' ho' hgood => ?_))
    · have h1 := hdep e he
      rw [hbd] at h1
      have h2 := hx.2 e he
      have h3 : e.on < listed.size := by omega
      refine hg e.on (by omega) ?_
      simp only [Array.getD, h3, dif_pos] at h1 ⊢
      simpa using h1
    · rw [hput val i ops[i] v hio]
      refine ih _ _ _ (by simpa using hs) (by have := unl_set hs hin hun; omega) (ho.trans ho') (fun j hj hl => ?_)
      rw [getD_set _ _ _ _ (by omega)] at hl
      by_cases hji : j = i
      · subst hji
        rw [updV_same]
        exact hgood
      · rw [if_neg hji] at hl
        rw [updV_other hji]
        exact hmono _ _ _ _ ho' (hg j hj hl)
/-- a region that draws its order -/
theorem region_dag {id : Nat} {a0 : Act} {w0 : World} (lit : (Nat → Value) → Act) (val0 : Nat → Value) (Good : Nat → Value → World → Prop) (hm : P.follows .mixedOrders = true) (hb : backB ops = true) (h0 : lit val0 = a0)
    (hput : ∀ val i o v, ops[i]? = some o → (lit val).put o.dst v = lit (updV val i v))
    (hmono : ∀ i v w w', Old w w' → Good i v w → Good i v w')
    (hstep : ∀ i o, ops[i]? = some o → ∀ val w, Old w0 w → waits o (fun j => Good j (val j) w) → ∀ K : Act → World → Prop, (∀ v w', Old w w' → Good i v w' → K ((lit val).put o.dst v) w') → o.wp P (lit val) w K Q)
    (hend : ∀ val w, Old w0 w → (∀ i, i < ops.size → Good i (val i) w) → Q .normal (lit val) w) : (Code.region id ops true).wp P Q a0 w0 := by
  refine wp_region_any hm ?_
  rw [← h0]
  refine dag_go lit Good w0 hb hput hmono hstep hend _ _ _ _ (by simp) ?_ ((Old.refl w0).drew) (fun i hi hl => ?_)
  · unfold unl
    have := List.length_filter_le (fun i => !(Array.replicate ops.size false).getD i true) (List.range ops.size)
    simpa using this
  · simp [hi] at hl
/-- each operation in its turn -/
def allFrom (p : Nat → Oper → Prop) : Nat → List Oper → Prop
  | _, [] => True
  | k, o :: l => p k o ∧ allFrom p (k + 1) l
theorem allFrom_at {p : Nat → Oper → Prop} : ∀ {l : List Oper} {k : Nat}, allFrom p k l → ∀ i o, l[i]? = some o → p (k + i) o
  | [], _, _, i, o, h => by simp at h
  | x :: l, k, h, 0, o, ho => by
    simp at ho
    subst ho
    exact h.1
  | x :: l, k, h, i + 1, o, ho => by
    have := allFrom_at h.2 i o (by simpa using ho)
    rw [show k + (i + 1) = k + 1 + i by omega]
    exact this
theorem region_dag_l {l : List Oper} {id : Nat} {a0 : Act} {w0 : World} (lit : (Nat → Value) → Act) (val0 : Nat → Value) (Good : Nat → Value → World → Prop) (hm : P.follows .mixedOrders = true) (hb : backB l.toArray = true) (h0 : lit val0 = a0)
    (hput : allFrom (fun i o => ∀ val v, (lit val).put o.dst v = lit (updV val i v)) 0 l)
    (hmono : ∀ i v w w', Old w w' → Good i v w → Good i v w')
    (hstep : allFrom (fun i o => ∀ val w, Old w0 w → waits o (fun j => Good j (val j) w) → ∀ K : Act → World → Prop, (∀ v w', Old w w' → Good i v w' → K ((lit val).put o.dst v) w') → o.wp P (lit val) w K Q) 0 l)
    (hend : ∀ val w, Old w0 w → (∀ i, i < l.length → Good i (val i) w) → Q .normal (lit val) w) : (Code.region id l.toArray true).wp P Q a0 w0 :=
  region_dag lit val0 Good hm hb h0
    (fun val i o v ho => by have := allFrom_at hput i o (by simpa using ho); rw [Nat.zero_add] at this; exact this val v)
    hmono
    (fun i o ho => by have := allFrom_at hstep i o (by simpa using ho); rw [Nat.zero_add] at this; exact this)
    (fun val w ho hg => hend val w ho (fun i hi => hg i (by simpa using hi)))
theorem wp_value {o : Oper} {a : Act} {w w' : World} {v : Value} {K : Act → World → Prop} (h : (execOp a.eval o).run P w = .ok (.value v) w') (hk : K (a.put o.dst v) w') : o.wp P a w K Q := by
  unfold Oper.wp
  rw [h]
  exact hk
theorem wp_enter {o : Oper} {a : Act} {w w' : World} {f : FuncId} {args : Array Value} {K : Act → World → Prop} (h : (execOp a.eval o).run P w = .ok (.enter f args) w') (hc : Calls P f args w' fun e w'' => ∃ v, e = .returned v ∧ K (a.put o.dst v) w'') : o.wp P a w K Q := by
  unfold Oper.wp
  rw [h]
  exact hc.mono fun e w'' ⟨v, he, hk⟩ => by subst he; exact hk
end
end Go.Proofs.YtmfbblcipakaiaaGreatDoor
