/- The changes of groups in memory: wide numbers in a block; a map of names to pointers. No walk here. -/
import Derived.Test.YtmfbblcipakaiaaGreatDoorGrpM
import Derived.Test.YtmfbblcipakaiaaGreatDoorNorm
import Derived.Test.YtmfbblcipakaiaaGreatDoorWide2
import Derived.Maps.OwnSet
import Derived.Deep.CutBlock
import Derived.Deep.DeepCutAuto
/-! ### The changes of groups in memory: wide numbers in a block; a map of names to pointers. No walk here. -/
/-! ### The changes of groups in memory: wide numbers in a block; a map of names to pointers. No walk here. -/
namespace Go.Proofs.YtmfbblcipakaiaaGreatDoor
open Go.RowKit

def wideVals (s : Int) : List Value := [.int .u64 (wA s), .int .u64 (wB s), .int .u64 (wC s)]
def wideL (ns : List Int) : List Value := ns.flatMap wideVals
def wideA (ns : List Int) : Array Value := (wideL ns).toArray
theorem wideL_length (ns : List Int) : (wideL ns).length = ns.length * 3 := by
  induction ns with
  | nil => rfl
  | cons n ns ih => simp [wideL, wideVals] at *; omega
theorem wideL_get (ns : List Int) (i k : Nat) (hk : k < 3) (hi : i < ns.length) : (wideL ns)[i * 3 + k]? = (wideVals ns[i])[k]? := by
  induction ns generalizing i with
  | nil => simp at hi
  | cons n ns ih =>
    have hc : (wideVals n).length = 3 := rfl
    cases i with
    | zero => simp [wideL, List.flatMap_cons, List.getElem?_append_left, hc, hk]
    | succ i =>
      have h := ih i (by simpa using hi)
      simp only [wideL, List.flatMap_cons] at *
      rw [List.getElem?_append_right (by omega)]
      simp only [List.getElem_cons_succ]
      rw [← h]
      congr 1
      omega
theorem wideA_size (ns : List Int) : (wideA ns).size = ns.length * 3 := by simp [wideA, wideL_length]
theorem wideA_get (ns : List Int) (i k : Nat) (hk : k < 3) (hi : i < ns.length) : (wideA ns)[i * 3 + k]? = (wideVals ns[i])[k]? := by
  rw [← wideL_get ns i k hk hi]; simp [wideA]
/-- a number is written over -/
theorem wideA_set (ns : List Int) (i : Nat) (hi : i < ns.length) (t : Int) :
    (((wideA ns).setIfInBounds (i * 3) (.int .u64 (wA t))).setIfInBounds (i * 3 + 1) (.int .u64 (wB t))).setIfInBounds (i * 3 + 2) (.int .u64 (wC t)) = wideA (ns.set i t) := by
  apply Array.ext_getElem?
  intro j
  simp only [Array.getElem?_setIfInBounds, Array.size_setIfInBounds, wideA_size]
  rcases Nat.lt_or_ge j (ns.length * 3) with hj | hj
  · have h3 : j % 3 < 3 := Nat.mod_lt _ (by omega)
    have hd : j / 3 < ns.length := by omega
    have e : j = j / 3 * 3 + j % 3 := by omega
    by_cases hij : j / 3 = i
    · have g : (wideA (ns.set i t))[j]? = (wideVals t)[j % 3]? := by
        rw [e, wideA_get _ _ _ h3 (by simpa using hd)]
        have : (ns.set i t)[j / 3]'(by simpa using hd) = t := by simp [hij]
        rw [this]
        congr 1
        omega
      rw [g]
      have : j % 3 = 0 ∨ j % 3 = 1 ∨ j % 3 = 2 := by omega
      rcases this with h | h | h
      · rw [if_neg (by omega), if_neg (by omega), if_pos (by omega), if_pos (by omega), h]; rfl
      · rw [if_neg (by omega), if_pos (by omega), if_pos (by omega), h]; rfl
      · rw [if_pos (by omega), if_pos (by omega), h]; rfl
    · rw [if_neg (by omega), if_neg (by omega), if_neg (by omega)]
      rw [e, wideA_get _ _ _ h3 hd, wideA_get _ _ _ h3 (by simpa using hd)]
      have : (ns.set i t)[j / 3]'(by simpa using hd) = ns[j / 3] := by
        rw [List.getElem_set_ne (by omega)]
      rw [this]
  · rw [if_neg (by omega), if_neg (by omega), if_neg (by omega), Array.getElem?_eq_none (by rw [wideA_size]; omega), Array.getElem?_eq_none (by rw [wideA_size]; simpa using hj)]
theorem wideL_zero (n : Nat) : wideL (List.replicate n 0) = List.replicate (n * 3) (.int .u64 0) := by
  induction n with
  | zero => rfl
  | succ n ih =>
    rw [List.replicate_succ]
    have e : (n + 1) * 3 = n * 3 + 1 + 1 + 1 := by omega
    rw [e, List.replicate_succ, List.replicate_succ, List.replicate_succ, ← ih]
    rfl
theorem wideInfo : (Tryz.prog.info? 84).map (fun i => (i.zero, i.size, i.bytes)) = some (some (.agg #[.int .u64 0, .int .u64 0, .int .u64 0]), 3, 24) := by kernel_rfl
theorem made_wides (n : Nat) : madeCells (Value.agg #[.int .u64 0, .int .u64 0, .int .u64 0]).cells (n * 3) = wideA (List.replicate n 0) := by
  apply Array.ext_getElem?
  intro j
  have e : (Value.agg #[.int .u64 0, .int .u64 0, .int .u64 0]).cells = #[Value.int .u64 0, .int .u64 0, .int .u64 0] := rfl
  unfold wideA
  rw [e, wideL_zero]
  rcases Nat.lt_or_ge j (n * 3) with hj | hj
  · have : j % 3 = 0 ∨ j % 3 = 1 ∨ j % 3 = 2 := by omega
    rcases this with h | h | h <;> simp [madeCells, hj, h]
  · rw [Array.getElem?_eq_none (by simp [madeCells]; omega), Array.getElem?_eq_none (by simpa using hj)]
theorem make_wides (n : Nat) (hn : n ≤ 1048576) (w : World) : (Instr.makeSlice 77 (.int .i64 n) (.int .i64 n)).run Tryz.prog w = .ok (.slice (some ⟨w.heap.size, 0, none⟩) n n) (w.alloc (.cells (wideA (List.replicate n 0)) 84)) := by
  obtain ⟨i, hi, hz0, hz1, hz2⟩ := info_parts wideInfo
  rw [run_makeSlice w 77 84 i _ Tryz.underlying77 hi hz0 .i64 .i64 n n (by omega) (by omega) (by rw [hz1]; omega) (by rw [hz2]; omega) (by omega)]
  have := made_wides n
  rw [hz1]
  simp only [Int.toNat_natCast]
  rw [this]

/-- the block p is a change of the key k; its numbers, wide, are the block nb -/
structure ChgAt (w : World) (lo p nb : Nat) (k : List Cell) (ns : List Int) : Prop where
  head : ∃ kv, w.heap[p]? = some (.cells #[kv, .slice (some ⟨nb, 0, none⟩) ns.length ns.length] 79 (0, 0)) ∧ SlT 65 lo w kv k.length (rowVals k)
  nums : w.heap[nb]? = some (.cells (wideA ns) 84 (0, 0))
  lop : lo ≤ p
  lon : lo ≤ nb
/-- the map bc of names to changes: of the keys ks, whose numbers are F -/
structure CMap (w : World) (bc lo n : Nat) (F : List Cell → List Int) (ks : List (List Cell)) (p nb : List Cell → Nat) (M : ByteArray → Option Value) : Prop where
  map : MapIs Tryz.prog 9 w bc n M
  val : ∀ k, M (nameOf k) = if k ∈ ks then some (.pointer (some ⟨p k, 0, none⟩)) else none
  names : ∀ s v, M s = some v → ∃ k ∈ ks, s = nameOf k
  at_ : ∀ k ∈ ks, ChgAt w lo (p k) (nb k) k (F k)
  apart : ∀ k ∈ ks, ∀ j ∈ ks, nb k = nb j → k = j
  nodup : ks.Nodup
section
variable {w w' : World} {bc lo n p0 n0 : Nat} {F : List Cell → List Int} {ks : List (List Cell)} {p nb : List Cell → Nat} {M : ByteArray → Option Value} {k : List Cell} {ns : List Int}
theorem ChgAt.chg {X : Nat → Prop} (h : ChgAt w lo p0 n0 k ns) (c : Chg X w w') (hd : ∀ (b : Nat) cs T f, lo ≤ b → w.heap[b]? = some (.cells cs T f) → ¬ X b) : ChgAt w' lo p0 n0 k ns := by
  obtain ⟨⟨kv, h1, h2⟩, h3, h4, h5⟩ := h
  exact ⟨⟨kv, (c.block _ (block_lt h1) (hd _ _ _ _ h4 h1)).trans h1, h2.chg c (fun b cs f hl hh => hd b cs _ f hl hh)⟩, (c.block _ (block_lt h3) (hd _ _ _ _ h5 h3)).trans h3, h4, h5⟩
theorem ChgAt.old (h : ChgAt w lo p0 n0 k ns) (o : Old w w') : ChgAt w' lo p0 n0 k ns := h.chg (X := fun _ => False) (Chg.of_old o) (fun _ _ _ _ _ _ e => e)
/-- one number's block is written -/
theorem ChgAt.wrote {b : Nat} {cs : Array Value} (h : ChgAt w lo p0 n0 k ns) (c : Chg (fun i => i = b) w w') (hb : w.heap[b]? = some (.cells cs 84 (0, 0))) (hn : n0 ≠ b) : ChgAt w' lo p0 n0 k ns := by
  obtain ⟨⟨kv, h1, h2⟩, h3, h4, h5⟩ := h
  refine ⟨⟨kv, (c.block _ (block_lt h1) ?_).trans h1, h2.chg c ?_⟩, (c.block _ (block_lt h3) hn).trans h3, h4, h5⟩
  · rintro rfl
    rw [h1] at hb
    injection hb with hb
    injection hb with _ hT _
    cases hT
  · rintro i cs' f _ hh rfl
    rw [hh] at hb
    injection hb with hb
    injection hb with _ hT _
    cases hT
theorem CMap.chg {X : Nat → Prop} (h : CMap w bc lo n F ks p nb M) (c : Chg X w w') (hb : ¬ X bc) (hd : ∀ (b : Nat) cs T f, lo ≤ b → w.heap[b]? = some (.cells cs T f) → ¬ X b) : CMap w' bc lo n F ks p nb M :=
  ⟨h.map.chg c hb, h.val, h.names, fun k hk => (h.at_ k hk).chg c hd, h.apart, h.nodup⟩
theorem CMap.old (h : CMap w bc lo n F ks p nb M) (o : Old w w') : CMap w' bc lo n F ks p nb M := h.chg (X := fun _ => False) (Chg.of_old o) (fun e => e) (fun _ _ _ _ _ _ e => e)
theorem CMap.mono (h : CMap w bc lo n F ks p nb M) {n' : Nat} (hn : n ≤ n') : CMap w bc lo n' F ks p nb M := ⟨h.map.mono hn, h.val, h.names, h.at_, h.apart, h.nodup⟩
theorem CMap.made (w : World) (lo : Nat) (F : List Cell → List Int) (p nb : List Cell → Nat) : CMap (w.alloc (.map #[] 0)) w.heap.size lo 0 F [] p nb (fun _ => none) :=
  ⟨MapIs.made w _ _, fun _ => rfl, fun _ _ h => (by cases h), fun _ h => (by cases h), fun _ h => (by cases h), List.nodup_nil⟩
/-- a number of a key is written over -/
theorem CMap.wrote (h : CMap w bc lo n F ks p nb M) (hk : k ∈ ks) (c : Chg (fun i => i = nb k) w w') (hb : w'.heap[nb k]? = some (.cells (wideA ns) 84 (0, 0))) (hl : ns.length = (F k).length) {F' : List Cell → List Int}
    (hF : F' k = ns) (hF2 : ∀ j, j ≠ k → F' j = F j) : CMap w' bc lo n F' ks p nb M := by
  have hA := h.at_ k hk
  refine ⟨h.map.chg c ?_, h.val, h.names, fun j hj => ?_, h.apart, h.nodup⟩
  · intro e
    obtain ⟨es, cl, hm⟩ := h.map.isMap
    rw [e, hA.nums] at hm
    cases hm
  · by_cases e : j = k
    · subst e
      rw [hF]
      obtain ⟨⟨kv, h1, h2⟩, h3, h4, h5⟩ := hA
      refine ⟨⟨kv, ?_, h2.chg c ?_⟩, hb, h4, h5⟩
      · rw [hl]
        refine (c.block _ (block_lt h1) ?_).trans h1
        intro e
        rw [e, h3] at h1
        injection h1 with h1
        injection h1 with _ hT _
        cases hT
      · rintro i cs' f _ hh rfl
        rw [h3] at hh
        injection hh with hh
        injection hh with _ hT _
        cases hT
    · rw [hF2 j e]
      exact (h.at_ j hj).wrote c hA.nums (fun hh => e (h.apart j hj k hk hh))
/-- a change is put in -/
theorem CMap.put {W W' : World} (h : CMap w bc lo n F ks p nb M) (ho : Old w W) (hx : k ∉ ks) (hm : MapIs Tryz.prog 9 W' bc (n + 1) (upd M (nameOf k) (some (.pointer (some ⟨p0, 0, none⟩))))) (hg : W.grownBy W' (some bc))
    (hA : ChgAt W lo p0 n0 k (F k)) (hn0 : w.heap.size ≤ n0) :
    CMap W' bc lo (n + 1) F (ks ++ [k]) (fun j => if j = k then p0 else p j) (fun j => if j = k then n0 else nb j) (upd M (nameOf k) (some (.pointer (some ⟨p0, 0, none⟩)))) := by
  obtain ⟨es, cl, hbm⟩ := h.map.isMap
  have hd : ∀ (b : Nat) cs T f, lo ≤ b → W.heap[b]? = some (.cells cs T f) → ¬ b = bc := by
    rintro b cs T f _ hh rfl
    rw [ho.heap hbm] at hh
    cases hh
  have hnb : ∀ j ∈ ks, nb j < w.heap.size := fun j hj => block_lt (h.at_ j hj).nums
  refine ⟨hm, fun j => ?_, fun s v hv => ?_, fun j hj => ?_, fun j hj i hi e => ?_, ?_⟩
  · unfold upd
    by_cases e : j = k
    · subst e; simp
    · rw [if_neg (fun hh => e (nameOf_inj hh)), h.val]
      by_cases hj : j ∈ ks
      · rw [if_pos hj, if_pos (by simp [hj]), if_neg e]
      · rw [if_neg hj, if_neg (by simp [hj, e])]
  · unfold upd at hv
    by_cases e : s = nameOf k
    · exact ⟨k, by simp, e⟩
    · rw [if_neg e] at hv
      obtain ⟨j, hj, hs⟩ := h.names s v hv
      exact ⟨j, by simp [hj], hs⟩
  · rcases List.mem_append.1 hj with hj1 | hj1
    · have : j ≠ k := fun e => hx (e ▸ hj1)
      rw [if_neg this, if_neg this]
      exact ((h.at_ j hj1).old ho).chg (Chg.of_grown hg) hd
    · have : j = k := by simpa using hj1
      subst this
      rw [if_pos rfl, if_pos rfl]
      exact hA.chg (Chg.of_grown hg) hd
  · have key : ∀ a, a ∈ ks ++ [k] → a = k ∨ (a ≠ k ∧ a ∈ ks) := fun a ha => by
      by_cases e : a = k
      · exact .inl e
      · exact .inr ⟨e, by simpa [e] using ha⟩
    rcases key j hj with rfl | ⟨h1, h2⟩ <;> rcases key i hi with rfl | ⟨h3, h4⟩
    · rfl
    · rw [if_pos rfl, if_neg h3] at e
      have := hnb i h4
      omega
    · rw [if_pos rfl, if_neg h1] at e
      have := hnb j h2
      omega
    · rw [if_neg h1, if_neg h3] at e
      exact h.apart j h2 i h4 e
  · rw [List.nodup_append]
    exact ⟨h.nodup, by simp, fun a ha b hb => by
      have : b = k := by simpa using hb
      subst this
      rintro rfl
      exact hx ha⟩
end
end Go.Proofs.YtmfbblcipakaiaaGreatDoor

/-! ### The walk of changes' inner function: the change of a key. -/
namespace Go.Proofs.YtmfbblcipakaiaaGreatDoor
open Go.RowKit

theorem undStr : Tryz.prog.underlying 9 = some .string := Tryz.underlying9
theorem zero_ptr (w : World) : (zeroValue 76).run Tryz.prog w = .ok (.pointer none) w := by kernel_rfl
theorem zero_state (w : World) : (zeroValue 81).run Tryz.prog w = .ok (.agg #[.slice none 0 0, .slice none 0 0]) w := by kernel_rfl

/-- what changes' inner function leaves -/
def AtPost (w : World) (bc lo n : Nat) (F : List Cell → List Int) (ks : List (List Cell)) (x : List Cell) (e : Ending) (w' : World) : Prop :=
  ∃ (p' nb' : List Cell → Nat) (M' : ByteArray → Option Value), e = .returned (.pointer (some ⟨p' x, 0, none⟩)) ∧ CMap w' bc lo (n + 1) F (if x ∈ ks then ks else ks ++ [x]) p' nb' M' ∧ Chg (fun b => b = bc) w w'
theorem wrap_one {S : Nat} (hS : S ≤ 64) : IntKind.i64.wrap (1 + (S : Int)) = ((S + 1 : Nat) : Int) := by
  exact (IntWalk.i64_in _ (by omega)).trans (by omega)
theorem make_nums (S : Nat) (hS : S ≤ 64) (w : World) : (Instr.makeSlice 77 (.int .i64 (IntKind.i64.wrap (1 + (S : Int)))) (.int .i64 (IntKind.i64.wrap (1 + (S : Int))))).run Tryz.prog w = .ok (.slice (some ⟨w.heap.size, 0, none⟩) (S + 1) (S + 1)) (w.alloc (.cells (wideA (List.replicate (S + 1) 0)) 84)) := by
  rw [wrap_one hS]
  exact make_wides (S + 1) (by omega) w
theorem heap_alloc_at {w : World} (o : Obj) : (w.alloc o).heap[w.heap.size]? = some o := Array.getElem?_push_size

theorem field_nums (A0 A : Option Addr) (n0 c0 n c : Nat) (w : World) : (Instr.field 81 (.agg #[.slice A0 n0 c0, .slice A n c]) 1).run Tryz.prog w = .ok (.slice A n c) w := by kernel_rfl
theorem pad_set {ns : List Int} {j k : Nat} (h : j < ns.length) (h2 : ns.length ≤ k) : (ns.take j ++ List.replicate (k - j) 0).set j ns[j] = ns.take (j + 1) ++ List.replicate (k - (j + 1)) 0 := by
  have e : k - j = (k - (j + 1)) + 1 := by omega
  rw [take_snoc h, e, List.replicate_succ, List.set_append_right _ _ (by simp; omega)]
  have : j - (ns.take j).length = 0 := by simp; omega
  rw [this, List.set_cons_zero, List.append_assoc]
  rfl
theorem pad_len {ns : List Int} {j k : Nat} (h : j ≤ ns.length) (h2 : ns.length ≤ k) : (ns.take j ++ List.replicate (k - j) 0).length = k := by simp; omega
/-- three cells are written: a wide number -/
theorem set_wide {w : World} {b : Nat} {ns : List Int} (h : w.heap[b]? = some (.cells (wideA ns) 84 (0, 0))) {i : Nat} (hi : i < ns.length) (t : Int) :
    (((w.setCell ⟨b, i * 3, none⟩ (.int .u64 (wA t))).setCell ⟨b, i * 3 + 1, none⟩ (.int .u64 (wB t))).setCell ⟨b, i * 3 + 2, none⟩ (.int .u64 (wC t))).heap[b]? = some (.cells (wideA (ns.set i t)) 84 (0, 0)) := by
  rw [← wideA_set ns i hi t]
  simp [World.setCell, Array.getElem?_modify, h]
theorem chg_wide (w : World) (b i : Nat) (u0 u1 u2 : Value) : Chg (fun n => n = b) w (((w.setCell ⟨b, i, none⟩ u0).setCell ⟨b, i + 1, none⟩ u1).setCell ⟨b, i + 2, none⟩ u2) :=
  (((Chg.refl (fun n => n = b) w).set (p := b) rfl i u0).set (p := b) rfl (i + 1) u1).set (p := b) rfl (i + 2) u2
theorem wide_cells {w : World} {b : Nat} {ns : List Int} (h : w.heap[b]? = some (.cells (wideA ns) 84 (0, 0))) {i : Nat} (hi : i < ns.length) :
    w.cell? ⟨b, i * 3, none⟩ = some (.int .u64 (wA ns[i])) ∧ w.cell? ⟨b, i * 3 + 1, none⟩ = some (.int .u64 (wB ns[i])) ∧ w.cell? ⟨b, i * 3 + 2, none⟩ = some (.int .u64 (wC ns[i])) :=
  ⟨(cell_of_heap h).trans (wideA_get ns i 0 (by omega) hi), (cell_of_heap h).trans (wideA_get ns i 1 (by omega) hi), (cell_of_heap h).trans (wideA_get ns i 2 (by omega) hi)⟩

set_option maxRecDepth 100000 in
set_option maxHeartbeats 2000000 in
theorem at_run (q5 q2 bc g bm lo K S n m : Nat) (f : Gf) (F : List Cell → List Int) (ks : List (List Cell)) (p nb : List Cell → Nat) (M MG : ByteArray → Option Value) (B : Nat → Prop) (v : Value) (x : List Cell) (w : World)
    (h5 : w.cell? ⟨q5, 0, none⟩ = some (.map (some bc))) (h2 : w.cell? ⟨q2, 0, none⟩ = some (.pointer (some ⟨g, 0, none⟩)))
    (g2 : w.cell? ⟨g, 2, none⟩ = some (.int .i64 S)) (g3 : w.cell? ⟨g, 3, none⟩ = some (.map (some bm))) (hM : GMap w bm m K S f (leftB S f) B MG) (hS : S ≤ 64) (hf : GFit S f)
    (hC : CMap w bc lo n F ks p nb M) (hn : n ≤ 100000) (hv : RowIs w v x) (hk : KeyOk x) (hp : PowTab w) (hFx : x ∉ ks → F x = numsOf S f x) (hlo : lo ≤ w.heap.size) :
    Calls Tryz.prog 64 #[v, .pointer (some ⟨q5, 0, none⟩), .pointer (some ⟨q2, 0, none⟩)] w (AtPost w bc lo n F ks x) := by
  have HN := hide (name_run v x w hv hk hp)
  have HV := hide hv
  obtain ⟨Av, cv, rfl, -, -, -⟩ := hv
  obtain ⟨s, hs⟩ : ∃ s, Hid (nameOf x = s) := ⟨_, hide rfl⟩
  have hsz := hk.size
  have hxl := hk.len
  rw [hs.out] at HN hsz
  have H5 := hide h5
  have H2 := hide h2
  have HC := hide hC
  clear h5 h2 hk hp
  by_cases hx : x ∈ ks
  · have hMs : M s = some (.pointer (some ⟨p x, 0, none⟩)) := by rw [← hs.out, hC.val, if_pos hx]
    have HL := hide (show ∀ w', Old w w' → (Instr.lookup 74 (.map (some bc)) (.string s) false).run Tryz.prog w' = .ok (.pointer (some ⟨p x, 0, none⟩)) w' from fun w' ho => by
      have := (hC.map.old ho).look undStr Tryz.underlying74 (zero_ptr w') hsz
      rw [hMs] at this
      exact this)
    clear hC hM g2 g3 hMs
    go_enter Tryz.func64, Tryz.ntmps64
    go_wp2_with fail
    refine HN.out.mono ?_
    rintro e w1 ⟨rfl, h1⟩
    have y5 := h1.cell H5.out
    have hl := HL.out w1 h1
    have HO := hide h1
    clear h1
    go_wp2_with fail
    go_ret
    exact ⟨p, nb, M, rfl, by rw [if_pos hx]; exact (HC.out.old HO.out).mono (by omega), Chg.of_old HO.out⟩
  · have hMs : M s = none := by rw [← hs.out, hC.val, if_neg hx]
    have HL := hide (show ∀ w', Old w w' → (Instr.lookup 74 (.map (some bc)) (.string s) false).run Tryz.prog w' = .ok (.pointer none) w' from fun w' ho => by
      have := (hC.map.old ho).look undStr Tryz.underlying74 (zero_ptr w') hsz
      rw [hMs] at this
      exact this)
    have G2 := hide g2
    have G3 := hide g3
    have mk := make_nums S hS
    clear hC g2 g3 hMs
    go_enter Tryz.func64, Tryz.ntmps64
    go_wp2_with fail
    refine HN.out.mono ?_
    rintro e w1 ⟨rfl, h1⟩
    have y5 := h1.cell H5.out
    have hl := HL.out w1 h1
    have HO := hide h1
    have y2 : ∀ w', Old w1 w' → w'.cell? ⟨q2, 0, none⟩ = some (.pointer (some ⟨g, 0, none⟩)) := fun w' h => (HO.out.trans h).cell H2.out
    have z2 : ∀ w', Old w1 w' → w'.cell? ⟨g, 2, none⟩ = some (.int .i64 S) := fun w' h => (HO.out.trans h).cell G2.out
    have HR := hide (show ∀ w', Old w1 w' → Calls Tryz.prog 55 #[.slice Av x.length cv] w' fun e w2 => ∃ A cp, e = .returned (.slice A x.length cp) ∧ SlT 65 lo w2 (.slice A x.length cp) x.length (rowVals x) ∧ Old w' w2 from fun w' h =>
      (row_Copy _ _ _ (HV.out.old (HO.out.trans h)) (by omega)).mono fun _ _ hn => hn.form (Nat.le_trans hlo (HO.out.trans h).size))
    clear h1
    go_wp2_with fail
    go_region_held3 (fun w' => Old w1 w')
      (first | (exact Old.drew (Old.refl _)) | (exact Old.alloc (by assumption) _) | (exact Old.trans (by assumption) (by assumption)))
      (first
        | (go_at_call 55; refine (HR.out _ (by assumption)).mono ?_; rintro e w2 ⟨A1, c1, rfl, hr1, hb1⟩))
    all_goals
      first
      | (have hN : w2.heap[w1.heap.size]? = some (.cells (wideA (List.replicate (S + 1) 0)) 84 (0, 0)) := hb1.heap (heap_alloc_at (w := w1.drew) _)
         have hOW : Old w1 w2 := Old.trans (Old.alloc (Old.drew (Old.refl w1)) _) hb1
         have hnb : w1.heap.size ≤ w1.heap.size := Nat.le_refl _
         clear hb1
         generalize hnb0 : w1.heap.size = nb0 at hN hnb ⊢
         generalize w2 = W at *)
      | (have hN : (w2.alloc (.cells (wideA (List.replicate (S + 1) 0)) 84)).heap[w2.heap.size]? = some (.cells (wideA (List.replicate (S + 1) 0)) 84 (0, 0)) := heap_alloc_at _
         have hOW : Old w1 (w2.alloc (.cells (wideA (List.replicate (S + 1) 0)) 84)) := Old.alloc (Old.trans (Old.drew (Old.refl w1)) hb1) _
         have hnb : w1.heap.size ≤ w2.heap.size := hb1.size
         have hr2 := SlT.old hr1 (Old.alloc (Old.refl w2) (.cells (wideA (List.replicate (S + 1) 0)) 84))
         have hsz1 : w2.heap.size + 1 = (w2.alloc (.cells (wideA (List.replicate (S + 1) 0)) 84)).heap.size := by simp
         rw [hsz1]
         clear hb1 hr1
         have hr1 := hr2
         clear hr2 hsz1
         generalize (w2.alloc (.cells (wideA (List.replicate (S + 1) 0)) 84)) = W at *
         generalize w2.heap.size = nb0 at *)
    all_goals
      have HB := hide (show (W.alloc (.cells #[.slice A1 x.length c1, .slice (some ⟨nb0, 0, none⟩) (S + 1) (S + 1)] 79)).heap[W.heap.size]? = some (.cells #[.slice A1 x.length c1, .slice (some ⟨nb0, 0, none⟩) (S + 1) (S + 1)] 79 (0, 0)) from heap_alloc_at _)
      have HN2 := hide (show (W.alloc (.cells #[.slice A1 x.length c1, .slice (some ⟨nb0, 0, none⟩) (S + 1) (S + 1)] 79)).heap[nb0]? = _ from (Old.alloc (Old.refl W) _).heap hN)
      have HR1 := hide (hr1.old (Old.alloc (Old.refl W) (.cells #[.slice A1 x.length c1, .slice (some ⟨nb0, 0, none⟩) (S + 1) (S + 1)] 79)))
      have HOW := hide (Old.alloc hOW (.cells #[.slice A1 x.length c1, .slice (some ⟨nb0, 0, none⟩) (S + 1) (S + 1)] 79))
      have hnW : nb0 < W.heap.size := block_lt hN
      clear hN hr1 hOW hl y5 y2 z2 HR HL mk
      generalize (W.alloc (.cells #[.slice A1 x.length c1, .slice (some ⟨nb0, 0, none⟩) (S + 1) (S + 1)] 79)) = W2 at *
      have hrun := ((hM.map.old HO.out).old HOW.out).look undStr Tryz.underlying54 (zero_state W2) (s := nameOf x) (by rw [hs.out]; exact hsz)
      obtain ⟨gv, hgv⟩ : ∃ gv, (MG (nameOf x)).getD (.agg #[.slice none 0 0, .slice none 0 0]) = gv := ⟨_, rfl⟩
      rw [hgv, hs.out] at hrun
      have y2 := HOW.out.cell (HO.out.cell H2.out)
      have y3 := HOW.out.cell (HO.out.cell G3.out)
      obtain ⟨A0, n0, c0, b, ns, rfl, hb, hns, hpad⟩ : ∃ (A0 : Option Addr) (n0 c0 : Nat) (b : Value) (ns : List Int), gv = .agg #[.slice A0 n0 c0, b] ∧ Sl w b ns.length (numVals ns) ∧ ns.length ≤ S + 1 ∧ F x = ns ++ List.replicate (S + 1 - ns.length) 0 := by
        rw [hFx hx]
        cases hL : leftB S f x
        · rw [hM.none_ x hL] at hgv
          refine ⟨none, 0, 0, _, [], hgv.symm, Sl.nil_ _, by simp, ?_⟩
          unfold numsOf
          apply List.ext_getElem
          · simp
          · intro i h1 h2
            simp only [List.getElem_map, List.getElem_range, List.nil_append, List.getElem_replicate]
            exact leftB_false.1 hL i (by simp at h1; omega)
        · obtain ⟨v, hv1, a, b, rfl, ha, hb⟩ := hM.some_ x hL
          rw [hv1] at hgv
          have e : (numsOf S f x).length = S + 1 := numsOf_length S f x
          obtain ⟨A0, c0, rfl⟩ := ha.form
          exact ⟨A0, _, c0, b, _, hgv.symm, hb.sl, by omega, by simp [e]⟩
      have hfit : ∀ n ∈ ns, fit n := by
        intro n hn
        have : n ∈ F x := by rw [hpad]; simp [hn]
        rw [hFx hx] at this
        obtain ⟨i, hi, rfl⟩ := List.mem_map.1 this
        exact hf x i (by have := List.mem_range.1 hi; omega)
      obtain ⟨A, ca, rfl, hla, hma, hc⟩ := hb
      unfold maxLen at hma
      have HCB := hide hc
      have HPAD := hide hpad
      have HFIT := hide hfit
      have hfd := field_nums A0 A n0 c0 ns.length ca W2
      clear hc hM hpad hfit hgv
      go_wp2_with fail
      have HW := hide (show Hid (∀ wr, Chg (fun b => b = nb0) W2 wr → Old w1 wr) from fun wr hc => by
        refine Chg.old (X := fun b => b = nb0) ((Chg.of_old HOW.out).trans hc (fun _ _ e => e) (fun _ _ e => e)) ?_
        intro n hn e
        omega)
      obtain ⟨N, hNN⟩ : ∃ N, Hid (ns.length = N) := ⟨_, hide rfl⟩
      rw [hNN.out] at hla hns ⊢
      go_loopw [33] (fun i wr => ∃ j : Nat, i = .int .i64 j ∧ j ≤ N ∧ Hid (wr.heap[nb0]? = some (.cells (wideA (ns.take j ++ List.replicate (S + 1 - j) 0)) 84 (0, 0))) ∧ Hid (Chg (fun b => b = nb0) W2 wr)) (fun i _ => N - (intOf i).toNat)
      case atStart => exact ⟨0, rfl, by omega, by simpa using HN2, hide (Chg.refl _ _)⟩
      case round =>
        obtain ⟨j, rfl, hj, HD, HG⟩ := hrel
        by_cases hlt : j < N
        · have hjn : j < ns.length := by rw [hNN.out]; exact hlt
          have hwr := HW.out wr HG.out
          have g1 := numVals_get hjn
          obtain ⟨b1, o1, rfl, hc1⟩ := HCB.out (by intro e; rw [e] at g1; simp at g1)
          have y1 : wr.cell? ⟨b1, o1 + j, none⟩ = some (.int .i64 ns[j]) := (HO.out.trans hwr).cell (hc1 _ _ g1)
          have HXF := hide (HFIT.out ns[j] (List.getElem_mem hjn))
          have HPS := hide (pad_set (ns := ns) (j := j) (k := S + 1) hjn (by rw [hNN.out]; exact hns))
          have HPL := hide (pad_len (ns := ns) (j := j) (k := S + 1) (by omega) (by rw [hNN.out]; exact hns))
          obtain ⟨xn, hxn⟩ : ∃ xn, Hid (ns[j] = xn) := ⟨_, hide rfl⟩
          rw [hxn.out] at y1 HXF HPS
          have bx : ∀ p : Later wr, p.world.cell? ⟨W.heap.size, 1, none⟩ = some (.slice (some ⟨nb0, 0, none⟩) (S + 1) (S + 1)) := fun p => p.old.cell ((cell_of_heap ((HG.out.block _ (block_lt HB.out) (show ¬ W.heap.size = nb0 by omega)).trans HB.out)).trans rfl)
          have CO := hide (fun p : Later wr => (wide_Of xn p.world HXF.out).mono fun e w' h => (⟨h.1, h.2.old⟩ : e = .returned (wide xn) ∧ Old p.world w'))
          have hjS : j < S + 1 := by omega
          clear g1 hc1
          go_wp2_with fail
          refine region_later_tail 8 (by kernel_rfl) (by kernel_rfl) ?_
          simp only [List.take_succ_cons, List.take_zero, List.drop_succ_cons, List.drop_zero]
          repeat (go_big_quiet_step ((go_at_call 54; exact Later.call (CO.out _))))
          refine wpQuiet_nil ?_
          rintro wz ⟨⟨_, hwz⟩, rfl⟩
          clear bx CO
          have HZ := hide (hwz.heap HD.out)
          obtain ⟨d0, d1, d2⟩ := wide_cells HZ.out (i := j) (by rw [HPL.out]; omega)
          have f0 : ∀ i, wz.frozen? ⟨nb0, i, none⟩ = false := fun i => free_of_heap HZ.out
          go_wp2_with fail
          go_roundw
          case rel =>
            refine ⟨j + 1, by go_num, by omega, hide ?_, hide ((HG.out.step hwz).trans (chg_wide _ _ _ _ _ _) (fun _ _ e => e) (fun _ _ e => e))⟩
            have := set_wide HZ.out (i := j) (by rw [HPL.out]; omega) xn
            rw [HPS.out] at this
            exact this
          case measure => simp [intOf]; omega
        · have hjN : j = N := by omega
          have hwr := HW.out wr HG.out
          have hO := HO.out.trans hwr
          have hall : ns.take j = ns := List.take_of_length_le (by rw [hNN.out]; omega)
          have hd := HD.out
          rw [hall, hjN, ← hNN.out, ← HPAD.out] at hd
          have hFl : (F x).length = S + 1 := by rw [hFx hx, numsOf_length]
          have hA : ChgAt wr lo W.heap.size nb0 x (F x) := by
            refine ⟨⟨_, ?_, HR1.out.chg HG.out ?_⟩, hd, ?_, ?_⟩
            · rw [hFl]
              exact (HG.out.block _ (block_lt HB.out) (show ¬ W.heap.size = nb0 by omega)).trans HB.out
            · rintro b cs f _ hh rfl
              have := HN2.out
              rw [hh] at this
              injection this with this
              injection this with _ hT _
              cases hT
            · have := HO.out.size; omega
            · have := HO.out.size; omega
          obtain ⟨w6, hput, hm6, hg6⟩ := (HC.out.map.old hO).put undStr Tryz.underlying74 (by unfold maxLen; omega) (s := nameOf x) (by rw [hs.out]; exact hsz) (.pointer (some ⟨W.heap.size, 0, none⟩))
          have hC6 := HC.out.put hO hx hm6 hg6 hA (by have := HO.out.size; omega)
          have hl6 := hm6.look undStr Tryz.underlying74 (zero_ptr w6) (s := nameOf x) (by rw [hs.out]; exact hsz)
          have hu : (upd M (nameOf x) (some (.pointer (some ⟨W.heap.size, 0, none⟩))) (nameOf x)).getD (.pointer none) = .pointer (some ⟨W.heap.size, 0, none⟩) := by simp [upd]
          rw [hu, hs.out] at hl6
          rw [hs.out] at hput
          have y5 := hO.cell H5.out
          have hq5 : q5 ≠ bc := by
            rintro rfl
            obtain ⟨es, cl, hm⟩ := HC.out.map.isMap
            have := H5.out
            simp [World.cell?, hm] at this
          have y6 : w6.cell? ⟨q5, 0, none⟩ = some (.map (some bc)) := (World.cell?_of_block (a := ⟨q5, 0, none⟩) (hg6.block q5 (World.block_lt_of_cell? wr _ y5) (fun e => hq5 (by injection e)))).trans y5
          have HC6 := hide hC6
          have HGA := hide ((Chg.of_old (X := fun b => b = bc) hO).trans (Chg.of_grown hg6) (fun _ _ e => e) (fun _ _ e => e))
          clear hm6 hg6 hC6 hA hd hall hu hO hwr
          go_wp2_with fail
          go_ret
          exact ⟨fun j => if j = x then W.heap.size else p j, fun j => if j = x then nb0 else nb j, _, by simp, by rw [if_neg hx]; exact HC6.out, HGA.out⟩
end Go.Proofs.YtmfbblcipakaiaaGreatDoor

/-! ### The walk of changes: what entries make of groups. -/
namespace Go.Proofs.YtmfbblcipakaiaaGreatDoor
open Go.RowKit

structure EntFine (e : Ent) : Prop where
  key : KeyOk e.key
  w : fit e.w
  vals : ∀ c ∈ e.vals, fit c.n
theorem heap_ne {w : World} {a b : Nat} {cs cs' : Array Value} {T T' : TypeId} {f f' : Nat × Nat} (h1 : w.heap[a]? = some (.cells cs T f)) (h2 : w.heap[b]? = some (.cells cs' T' f')) (hT : T ≠ T') : a ≠ b := by
  rintro rfl
  rw [h1] at h2
  injection h2 with h2
  injection h2 with _ h _
  exact hT h
theorem map_ne {w : World} {a b : Nat} {cs : Array Value} {T : TypeId} {f : Nat × Nat} (h1 : w.heap[a]? = some (.cells cs T f)) {P : Program} {k n : Nat} {m : ByteArray → Option Value} (h2 : MapIs P k w b n m) : a ≠ b := by
  rintro rfl
  obtain ⟨es, c, hh⟩ := h2.isMap
  rw [h1] at hh
  cases hh

/-- the state while an entry is put in: its parts up to the j-th -/
def pF (f : Gf) (e : Ent) (j : Nat) : Gf := fun z i => f z i + if z = e.key then (if i ≤ j then part e i else 0) else 0
theorem pF_other {f : Gf} {e : Ent} {j S : Nat} {z : List Cell} (h : z ≠ e.key) : numsOf S (pF f e j) z = numsOf S f z := by
  unfold numsOf pF
  simp [h]
theorem pF_end {f : Gf} {l : List Ent} {e : Ent} {S : Nat} (z : List Cell) : numsOf S (pF (gAdd f l) e S) z = numsOf S (gAdd f (l ++ [e])) z := by
  unfold numsOf
  apply List.map_congr_left
  intro i hi
  have := List.mem_range.1 hi
  simp only [pF, gAdd, tot_snoc]
  by_cases h : z = e.key
  · rw [if_pos h, if_pos (by omega), if_pos h.symm]; omega
  · rw [if_neg h, if_neg (Ne.symm h)]; omega
theorem nums_at {S i : Nat} (f : Gf) (k : List Cell) (h : i < (numsOf S f k).length) : (numsOf S f k)[i] = f k i := by
  simp [numsOf]
theorem pF_zero {f : Gf} {e : Ent} {S : Nat} : numsOf S (pF f e 0) e.key = (numsOf S f e.key).set 0 (f e.key 0 + e.w) := by
  apply List.ext_getElem
  · simp [numsOf_length]
  · intro i h1 h2
    rw [nums_at, List.getElem_set, nums_at]
    unfold pF
    by_cases h : i = 0
    · subst h; simp [part]
    · rw [if_neg (Ne.symm h), if_pos rfl, if_neg (by omega)]; omega
theorem pF_next {f : Gf} {e : Ent} {S j : Nat} : numsOf S (pF f e (j + 1)) e.key = (numsOf S (pF f e j) e.key).set (j + 1) (pF f e j e.key (j + 1) + part e (j + 1)) := by
  apply List.ext_getElem
  · simp [numsOf_length]
  · intro i h1 h2
    rw [nums_at, List.getElem_set, nums_at]
    unfold pF
    by_cases h : i = j + 1
    · subst h; simp [show ¬ (j + 1 ≤ j) by omega]
    · rw [if_neg (Ne.symm h), if_pos rfl, if_pos rfl]
      by_cases hi : i ≤ j
      · rw [if_pos (by omega), if_pos hi]
      · rw [if_neg (by omega), if_neg hi]
theorem pF_skip {f : Gf} {e : Ent} {S j : Nat} (h : part e (j + 1) = 0) (z : List Cell) : numsOf S (pF f e (j + 1)) z = numsOf S (pF f e j) z := by
  unfold numsOf
  apply List.map_congr_left
  intro i _
  unfold pF
  by_cases hz : z = e.key
  · rw [if_pos hz, if_pos hz]
    by_cases hi : i = j + 1
    · subst hi; rw [if_pos (Nat.le_refl _), if_neg (by omega), h]
    · by_cases hi2 : i ≤ j
      · rw [if_pos (by omega), if_pos hi2]
      · rw [if_neg (by omega), if_neg hi2]
  · rw [if_neg hz, if_neg hz]
theorem part_cell {e : Ent} {j : Nat} (h : j < e.vals.length) : part e (j + 1) = if e.vals[j].null then 0 else e.w * e.vals[j].n := by
  simp [part, h]

/-- the two cells that the inner function holds -/
structure ChCells (w : World) (g q2 q5 bc : Nat) : Prop where
  c2 : w.heap[q2]? = some (.cells #[.pointer (some ⟨g, 0, none⟩)] 24 (0, 0))
  c5 : w.heap[q5]? = some (.cells #[.map (some bc)] 74 (0, 0))
theorem ChCells.chg {X : Nat → Prop} {w w' : World} {g q2 q5 bc : Nat} (h : ChCells w g q2 q5 bc) (c : Chg X w w') (h2 : ¬ X q2) (h5 : ¬ X q5) : ChCells w' g q2 q5 bc :=
  ⟨(c.block _ (block_lt h.c2) h2).trans h.c2, (c.block _ (block_lt h.c5) h5).trans h.c5⟩
theorem ChCells.old {w w' : World} {g q2 q5 bc : Nat} (h : ChCells w g q2 q5 bc) (o : Old w w') : ChCells w' g q2 q5 bc := ⟨o.heap h.c2, o.heap h.c5⟩

/-- the keys of entries -/
def KeysOf (l : List Ent) (ks : List (List Cell)) : Prop := ∀ x, x ∈ ks ↔ ∃ e ∈ l, e.key = x
theorem KeysOf.next {l : List Ent} {ks : List (List Cell)} (h : KeysOf l ks) (e : Ent) : KeysOf (l ++ [e]) (if e.key ∈ ks then ks else ks ++ [e.key]) := by
  intro x
  by_cases hk : e.key ∈ ks
  · rw [if_pos hk, h]
    constructor
    · rintro ⟨y, hy, rfl⟩; exact ⟨y, by simp [hy], rfl⟩
    · rintro ⟨y, hy, rfl⟩
      rcases List.mem_append.1 hy with hy | hy
      · exact ⟨y, hy, rfl⟩
      · have : y = e := by simpa using hy
        subst this
        exact (h _).1 hk
  · rw [if_neg hk, List.mem_append, h]
    constructor
    · rintro (⟨y, hy, rfl⟩ | hx)
      · exact ⟨y, by simp [hy], rfl⟩
      · exact ⟨e, by simp, by simpa using Eq.symm (by simpa using hx)⟩
    · rintro ⟨y, hy, rfl⟩
      rcases List.mem_append.1 hy with hy | hy
      · exact .inl ⟨y, hy, rfl⟩
      · have : y = e := by simpa using hy
        subst this
        exact .inr (by simp)
/-- what changes hands back -/
def ChPost (w : World) (S : Nat) (f : Gf) (l : List Ent) (e : Ending) (w' : World) : Prop :=
  ∃ (bc : Nat) (ks : List (List Cell)) (p nb : List Cell → Nat) (M : ByteArray → Option Value), e = .returned (.map (some bc)) ∧ w.heap.size ≤ bc ∧ CMap w' bc w.heap.size l.length (fun x => numsOf S (gAdd f l) x) ks p nb M ∧ KeysOf l ks ∧ Old w w'
def ChLoop (w : World) (bc S k : Nat) (f : Gf) (l : List Ent) (wr : World) : Prop :=
  ∃ (ks : List (List Cell)) (p nb : List Cell → Nat) (M : ByteArray → Option Value), CMap wr bc w.heap.size k (fun x => numsOf S (gAdd f (l.take k)) x) ks p nb M ∧ KeysOf (l.take k) ks

set_option maxRecDepth 100000 in
set_option maxHeartbeats 4000000 in
theorem changes_run (g bm K S m : Nat) (f : Gf) (MG : ByteArray → Option Value) (B : Nat → Prop) (v : Value) (l : List Ent) (w : World)
    (g2 : w.cell? ⟨g, 2, none⟩ = some (.int .i64 S)) (g3 : w.cell? ⟨g, 3, none⟩ = some (.map (some bm))) (hM : GMap w bm m K S f (leftB S f) B MG) (hS : S ≤ 64) (hf : GFit S f)
    (hl : EntsIs w v l) (hn : l.length ≤ 10000) (hfine : ∀ e ∈ l, EntFine e) (hmay : ∀ e ∈ l, e.vals.length = S) (hp : PowTab w) :
    Calls Tryz.prog 35 #[.pointer (some ⟨g, 0, none⟩), v] w (ChPost w S f l) := by
  obtain ⟨A, ca, us, vs, rfl, hla, hma, hul, hvl, hur, hvr, ha⟩ := hl.open_
  unfold maxLen at hma
  have HUR := hide hur
  have HVR := hide hvr
  have HA := hide ha
  have HFI := hide hfine
  have HMY := hide hmay
  have HG2 := hide g2
  have HG3 := hide g3
  have HM := hide hM
  have HP := hide hp
  have HGF := hide hf
  have hmm := @run_makeMap Tryz.prog
  clear hur hvr ha hfine hmay g2 g3 hM hp hf hl
  go_enter Tryz.func35, Tryz.ntmps35
  go_wp2_with fail
  go_loopw [16] (fun i wr => ∃ k : Nat, i = .int .i64 k ∧ k ≤ l.length ∧ Hid (ChLoop w (w.heap.size + 1) S k f l wr) ∧ Hid (ChCells wr g w.heap.size (w.heap.size + 1 + 1) (w.heap.size + 1)) ∧ Hid (Old w wr)) (fun i _ => l.length - (intOf i).toNat)
  case atStart =>
    refine ⟨0, rfl, by omega, hide ⟨[], fun _ => 0, fun _ => 0, fun _ => none, ?_, fun x => by simp⟩, hide ⟨?_, ?_⟩, hide ((((Old.refl w).alloc _).alloc _).alloc _)⟩
    · exact (CMap.made (w.alloc (.cells #[.pointer (some ⟨g, 0, none⟩)] 24)) w.heap.size (fun x => numsOf S (gAdd f (l.take 0)) x) (fun _ => 0) (fun _ => 0)).old ((Old.refl _).alloc _) |> fun h => by simpa using h
    · exact (((Old.refl _).alloc _).alloc _).heap (heap_alloc_at (w := w) _)
    · have := heap_alloc_at (w := (w.alloc (.cells #[.pointer (some ⟨g, 0, none⟩)] 24)).alloc (.map #[] 0)) (.cells #[.map (some (w.heap.size + 1))] 74)
      simpa using this
  case round =>
    obtain ⟨k, rfl, hk, HL, HC, HO⟩ := hrel
    by_cases hlt : k < l.length
    · have hku : k < us.length := by omega
      have hkv : k < vs.length := by omega
      obtain ⟨b1, o1, rfl, hc1⟩ := HA.out.resolve_left (by omega)
      obtain ⟨x0, x1, x2⟩ := hc1 k hlt hku hkv
      have y0 := HO.out.cell x0
      have y1 := HO.out.cell x1
      have y2 := HO.out.cell x2
      have HU := hide ((HUR.out k hlt hku).old HO.out)
      have HV := hide (HVR.out k hlt hkv)
      have HF := hide (HFI.out l[k] (List.getElem_mem hlt))
      have HY := hide (HMY.out l[k] (List.getElem_mem hlt))
      have HTK := hide (take_snoc hlt)
      clear hc1 x0 x1 x2
      obtain ⟨e, he⟩ : ∃ e, Hid (l[k] = e) := ⟨_, hide rfl⟩
      obtain ⟨uk, huk⟩ : ∃ uk, us[k] = uk := ⟨_, rfl⟩
      obtain ⟨vk, hvk⟩ : ∃ vk, vs[k] = vk := ⟨_, rfl⟩
      rw [he.out] at y2 HU HV HF HY HTK
      rw [huk] at y0 HU
      rw [hvk] at y1 HV
      obtain ⟨ks, p, nb, M, hCM, hKS⟩ := HL.out
      have HCM := hide hCM
      have HKS := hide hKS
      obtain ⟨Au, cu, rfl, -, -, -⟩ := id HU.out
      obtain ⟨Av, cv, rfl, hlv, hmv, hav⟩ := HV.out.row
      unfold maxLen at hmv
      have HAV := hide hav
      have hvl2 : Hid (e.vals.length = S) := HY
      rw [hvl2.out] at hlv y1 
      have hFx : Hid (e.key ∉ ks → numsOf S (gAdd f (l.take k)) e.key = numsOf S f e.key) := hide (fun hx => by
        have : ∀ i, tot (l.take k) e.key i = 0 := fun i => tot_none (fun y hy hh => hx ((HKS.out _).2 ⟨y, hy, hh⟩)) i
        unfold numsOf gAdd
        simp [this])
      have CAT := hide (fun (w1 : World) (o : Old wr w1) => at_run (w.heap.size + 1 + 1) w.heap.size (w.heap.size + 1) g bm w.heap.size K S k m f (fun x => numsOf S (gAdd f (l.take k)) x) ks p nb M MG B (.slice Au e.key.length cu) e.key w1
        ((cell_of_heap (o.heap HC.out.c5)).trans rfl) ((cell_of_heap (o.heap HC.out.c2)).trans rfl) ((HO.out.trans o).cell HG2.out) ((HO.out.trans o).cell HG3.out) (HM.out.old (HO.out.trans o)) hS HGF.out (HCM.out.old o) (by omega) (HU.out.old o) HF.out.key (HP.out.old (HO.out.trans o)) hFx.out (HO.out.trans o).size)
      clear hCM hKS hav HL
      go_wp2_with fail
      refine (CAT.out _ ((Old.refl wr).alloc _)).mono ?_
      rintro e0 w1 ⟨p', nb', M', rfl, hcm, hch⟩
      obtain ⟨ks', hks'⟩ : ∃ ks', Hid ((if e.key ∈ ks then ks else ks ++ [e.key]) = ks') := ⟨_, hide rfl⟩
      rw [hks'.out] at hcm
      have HK1 := hide (show KeysOf (l.take (k + 1)) ks' by rw [HTK.out, ← hks'.out]; exact HKS.out.next e)
      have hx : e.key ∈ ks' := (HK1.out _).2 ⟨e, by rw [HTK.out]; simp, rfl⟩
      have hAt := hcm.at_ e.key hx
      have hlon := hAt.lon
      have hlop := hAt.lop
      obtain ⟨P0, hP0⟩ : ∃ P0, p' e.key = P0 := ⟨_, rfl⟩
      obtain ⟨N0, hN0⟩ : ∃ N0, Hid (nb' e.key = N0) := ⟨_, hide rfl⟩
      rw [hP0] at hAt hlop ⊢
      rw [hN0.out] at hAt hlon
      obtain ⟨G, hG⟩ : ∃ G, Hid (gAdd f (l.take k) = G) := ⟨_, hide rfl⟩
      rw [hG.out] at hcm hAt
      have HCM1 := hide hcm
      have hq5 : w.heap.size + 1 + 1 < wr.heap.size := block_lt HC.out.c5
      have HC1 := hide ((HC.out.old ((Old.refl wr).alloc _)).chg hch (by omega) (by omega))
      have HBX := hide ((hch.block wr.heap.size (by simp) (by omega)).trans (heap_alloc_at (w := wr) _))
      have HO1 := hide (show Old w w1 from Below.trans (HO.out.alloc _) (Chg.below hch (lo := w.heap.size) (Nat.le_trans HO.out.size (by simp)) (by omega)))
      have HHD := hide hAt.head
      have HNU := hide hAt.nums
      clear hcm hch CAT hAt HCM HKS HC HO y0 y1 y2
      obtain ⟨kv, hkv0, -⟩ := id HHD.out
      have hlN : (numsOf S G e.key).length = S + 1 := numsOf_length S G e.key
      have a1 : ∀ q : Later w1, q.world.cell? ⟨P0, 1, none⟩ = some (.slice (some ⟨N0, 0, none⟩) (S + 1) (S + 1)) := fun q => q.old.cell ((cell_of_heap hkv0).trans (by rw [hlN]; rfl))
      have z0 := wide_cells HNU.out (i := 0) (by rw [hlN]; omega)
      rw [nums_at] at z0
      obtain ⟨s0, hs0⟩ : ∃ s0, Hid (G e.key 0 = s0) := ⟨_, hide rfl⟩
      rw [hs0.out] at z0
      obtain ⟨z0, z1, z2⟩ := z0
      have d0 : ∀ q : Later w1, q.world.cell? ⟨N0, 0, none⟩ = some (.int .u64 (wA s0)) := fun q => q.old.cell z0
      have d1 : ∀ q : Later w1, q.world.cell? ⟨N0, 1, none⟩ = some (.int .u64 (wB s0)) := fun q => q.old.cell z1
      have d2 : ∀ q : Later w1, q.world.cell? ⟨N0, 2, none⟩ = some (.int .u64 (wC s0)) := fun q => q.old.cell z2
      have bx2 : ∀ q : Later w1, q.world.cell? ⟨wr.heap.size, 2, none⟩ = some (.int .i64 e.w) := fun q => q.old.cell ((cell_of_heap HBX.out).trans rfl)
      have C1 := hide (fun q : Later w1 => (wide_Of e.w q.world HF.out.w).mono fun e' w' h => (⟨h.1, h.2.old⟩ : e' = .returned (wide e.w) ∧ Old q.world w'))
      have C2 := hide (fun q : Later w1 => (wide_Add s0 e.w q.world).mono fun e' w' h => (⟨h.1, h.2.old⟩ : e' = .returned (wide (s0 + e.w)) ∧ Old q.world w'))
      have hS1 : 0 < S + 1 := by omega
      clear z0 z1 z2 hkv0
      go_wp2_with fail
      refine region_later_tail 15 (by kernel_rfl) (by kernel_rfl) ?_
      simp only [List.take_succ_cons, List.take_zero, List.drop_succ_cons, List.drop_zero]
      repeat (go_big_quiet_step (first | (go_at_call 54; exact Later.call (C1.out _)) | (go_at_call 53; exact Later.call (C2.out _))))
      refine wpQuiet_nil ?_
      rintro wq ⟨⟨_, hwq⟩, rfl⟩
      clear a1 d0 d1 d2 bx2 C1 C2
      have HNQ := hide (hwq.heap HNU.out)
      obtain ⟨v0, v1, v2⟩ := wide_cells HNQ.out (i := 0) (by rw [hlN]; omega)
      have f0 : ∀ i, wq.frozen? ⟨N0, i, none⟩ = false := fun i => free_of_heap HNQ.out
      obtain ⟨w2, hw2⟩ : ∃ w2, Hid ((((wq.setCell ⟨N0, 0, none⟩ (.int .u64 (wA (s0 + e.w)))).setCell ⟨N0, 1, none⟩ (.int .u64 (wB (s0 + e.w)))).setCell ⟨N0, 2, none⟩ (.int .u64 (wC (s0 + e.w)))) = w2) := ⟨_, hide rfl⟩
      have HG2' := hide (show Chg (fun b => b = N0) w1 w2 by
        rw [← hw2.out]
        exact ((Chg.of_old (X := fun b => b = N0) hwq).trans (chg_wide wq N0 0 _ _ _) (fun _ _ e => e) (fun _ _ e => e)))
      have HCM2 := hide (show CMap w2 (w.heap.size + 1) w.heap.size (k + 1) (fun y => numsOf S (pF G e 0) y) ks' p' nb' M' by
        refine CMap.wrote HCM1.out (k := e.key) (ns := (numsOf S G e.key).set 0 (s0 + e.w)) hx (by rw [hN0.out]; exact HG2'.out) ?_ (by simp) ?_ (fun j hj => pF_other hj)
        · rw [hN0.out, ← hw2.out]
          exact set_wide HNQ.out (i := 0) (by rw [hlN]; omega) (s0 + e.w)
        · rw [pF_zero, hs0.out])
      have bx1 : wq.cell? ⟨wr.heap.size, 1, none⟩ = some (.slice Av S cv) := hwq.cell ((cell_of_heap HBX.out).trans rfl)
      have hne : ¬ N0 = wr.heap.size := heap_ne HNU.out HBX.out (by decide)
      have hne2 : ¬ wr.heap.size = N0 := fun h => hne h.symm
      clear hwq HNQ
      go_wp2_with fail
      rw [hw2.out]
      clear v0 v1 v2 f0 bx1
      obtain ⟨X0, hX0⟩ : ∃ X0, X0 = wr.heap.size := ⟨_, rfl⟩
      rw [← hX0] at HBX hne hne2 hq5 ⊢
      clear hX0
      go_loopw [42] (fun i wz => ∃ j : Nat, i = .int .i64 j ∧ j ≤ S ∧ Hid (CMap wz (w.heap.size + 1) w.heap.size (k + 1) (fun y => numsOf S (pF G e j) y) ks' p' nb' M') ∧ Hid (Chg (fun b => b = N0) w1 wz)) (fun i _ => S - (intOf i).toNat)
      case atStart => exact ⟨0, rfl, by omega, HCM2, HG2'⟩
      case round =>
        obtain ⟨j, rfl, hj, HCZ, HGZ⟩ := hrel
        have HOZ := hide (show Old w wr from Below.trans HO1.out (Chg.below HGZ.out (lo := w.heap.size) HO1.out.size (by omega)))
        have HBZ := hide ((HGZ.out.block X0 (block_lt HBX.out) (show ¬ X0 = N0 from hne2)).trans HBX.out)
        by_cases hjS : j < S
        · have hjv : j < e.vals.length := by rw [hvl2.out]; exact hjS
          obtain ⟨b3, o3, rfl, hc3⟩ := HAV.out.resolve_left (by rw [hvl2.out]; omega)
          obtain ⟨x0, x1, x2⟩ := hc3 j hjv
          have y0 := HOZ.out.cell x0
          have y1 := HOZ.out.cell x1
          have y2 := HOZ.out.cell x2
          clear hc3 x0 x1 x2
          have HPC := hide (part_cell hjv)
          have HCF := hide (HF.out.vals e.vals[j] (List.getElem_mem hjv))
          obtain ⟨c, hc⟩ : ∃ c, Hid (e.vals[j] = c) := ⟨_, hide rfl⟩
          rw [hc.out] at y0 y1 y2 HPC HCF
          cases hnl : c.null
          · rw [hnl] at y0
            have HP2 := hide (show part e (j + 1) = e.w * c.n by rw [HPC.out, hnl]; rfl)
            have hAt := HCZ.out.at_ e.key hx
            rw [hP0, hN0.out] at hAt
            have HNZ := hide hAt.nums
            obtain ⟨kv, hkv0, -⟩ := hAt.head
            have hlZ : (numsOf S (pF G e j) e.key).length = S + 1 := numsOf_length S _ _
            have HPN := hide (pF_next (f := G) (e := e) (S := S) (j := j))
            have HNN := hide (nums_at (S := S) (i := j + 1) (pF G e j) e.key (by rw [hlZ]; omega))
            obtain ⟨zj, hzj⟩ : ∃ zj, Hid (pF G e j e.key (j + 1) = zj) := ⟨_, hide rfl⟩
            obtain ⟨J, hJ⟩ : ∃ J, Hid (j + 1 = J) := ⟨_, hide rfl⟩
            have z0 := wide_cells HNZ.out (i := j + 1) (by rw [hlZ]; omega)
            rw [HNN.out, hzj.out] at z0
            rw [hzj.out, HP2.out] at HPN
            have hwJ : IntKind.i64.wrap (1 + (j : Int)) = (J : Int) := (IntWalk.i64_in _ (by omega)).trans (by rw [← hJ.out]; omega)
            have hJS : J < S + 1 := by rw [← hJ.out]; omega
            obtain ⟨W1, hW1⟩ : ∃ W1, Hid (wr.alloc (.cells #[.bool false, .int .i64 c.n, .string c.s] 65) = W1) := ⟨_, hide rfl⟩
            have oW : Old wr W1 := by rw [← hW1.out]; exact (Old.refl wr).alloc _
            rw [hJ.out] at z0
            obtain ⟨z0, z1, z2⟩ := z0
            have a1 : ∀ q : Later W1, q.world.cell? ⟨P0, 1, none⟩ = some (.slice (some ⟨N0, 0, none⟩) (S + 1) (S + 1)) := fun q => q.old.cell (oW.cell ((cell_of_heap hkv0).trans (by rw [hlZ]; rfl)))
            have d0 : ∀ q : Later W1, q.world.cell? ⟨N0, J * 3, none⟩ = some (.int .u64 (wA zj)) := fun q => q.old.cell (oW.cell z0)
            have d1 : ∀ q : Later W1, q.world.cell? ⟨N0, J * 3 + 1, none⟩ = some (.int .u64 (wB zj)) := fun q => q.old.cell (oW.cell z1)
            have d2 : ∀ q : Later W1, q.world.cell? ⟨N0, J * 3 + 2, none⟩ = some (.int .u64 (wC zj)) := fun q => q.old.cell (oW.cell z2)
            have bx2 : ∀ q : Later W1, q.world.cell? ⟨X0, 2, none⟩ = some (.int .i64 e.w) := fun q => q.old.cell (oW.cell ((cell_of_heap HBZ.out).trans rfl))
            have cx1 : ∀ q : Later W1, q.world.cell? ⟨wr.heap.size, 1, none⟩ = some (.int .i64 c.n) := fun q => q.old.cell (by rw [← hW1.out]; go_simp)
            have C1 := hide (fun q : Later W1 => (wide_Mul e.w c.n q.world HF.out.w HCF.out).mono fun e' w' h => (⟨h.1, h.2.old⟩ : e' = .returned (wide (e.w * c.n)) ∧ Old q.world w'))
            have C2 := hide (fun q : Later W1 => (wide_Add zj (e.w * c.n) q.world).mono fun e' w' h => (⟨h.1, h.2.old⟩ : e' = .returned (wide (zj + e.w * c.n)) ∧ Old q.world w'))
            obtain ⟨pr, hpr⟩ : ∃ pr, Hid (e.w * c.n = pr) := ⟨_, hide rfl⟩
            rw [hpr.out] at C1 C2 HPN
            have oW' := hide oW
            clear z0 z1 z2 hkv0 hAt oW
            go_wp2_with fail
            rw [hW1.out]
            refine region_later_tail 21 (by kernel_rfl) (by kernel_rfl) ?_
            simp only [List.take_succ_cons, List.take_zero, List.drop_succ_cons, List.drop_zero]
            repeat (go_big_quiet_step (first | (go_at_call 66; exact Later.call (C1.out _)) | (go_at_call 53; exact Later.call (C2.out _))))
            refine wpQuiet_nil ?_
            rintro wq2 ⟨⟨_, hwq⟩, rfl⟩
            clear a1 d0 d1 d2 bx2 cx1 C1 C2
            have hwz := oW'.out.trans hwq
            have HNQ := hide (hwz.heap HNZ.out)
            obtain ⟨v0, v1, v2⟩ := wide_cells HNQ.out (i := j + 1) (by rw [hlZ]; omega)
            rw [HNN.out, hzj.out, hJ.out] at v0 v1 v2
            have f0 : ∀ i, wq2.frozen? ⟨N0, i, none⟩ = false := fun i => free_of_heap HNQ.out
            have HSW := hide (set_wide HNQ.out (i := j + 1) (by rw [hlZ]; omega) (zj + pr))
            rw [← HPN.out, hJ.out] at HSW
            have HCW := hide ((Chg.of_old (X := fun b => b = N0) hwz).trans (chg_wide wq2 N0 (J * 3) (.int .u64 (wA (zj + pr))) (.int .u64 (wB (zj + pr))) (.int .u64 (wC (zj + pr)))) (fun _ _ e => e) (fun _ _ e => e))
            clear hwq hwz HNQ
            go_wp2_with fail
            go_roundw
            case rel =>
              refine ⟨j + 1, by go_num, by omega, hide ?_, hide (HGZ.out.trans HCW.out (fun _ _ e => e) (fun _ _ e => e))⟩
              refine CMap.wrote HCZ.out (k := e.key) (ns := numsOf S (pF G e (j + 1)) e.key) hx (by rw [hN0.out]; exact HCW.out) ?_ (by simp [numsOf_length]) rfl (fun y hy => (pF_other hy).trans (pF_other hy).symm)
              rw [hN0.out, hJ.out]
              exact HSW.out
            case measure => simp [intOf]; omega
          · rw [hnl] at y0
            have HP2 := hide (show part e (j + 1) = 0 by rw [HPC.out, hnl]; rfl)
            go_wp2_with fail
            go_roundw
            case rel =>
              refine ⟨j + 1, by go_num, by omega, hide ?_, hide (HGZ.out.step ((Old.refl wr).alloc _))⟩
              have hEq : (fun y => numsOf S (pF G e (j + 1)) y) = (fun y => numsOf S (pF G e j) y) := funext fun y => pF_skip HP2.out y
              rw [hEq]
              exact HCZ.out.old ((Old.refl wr).alloc _)
            case measure => simp [intOf]; omega
        · have hjS2 : j = S := by omega
          have HEND := hide (show CMap wr (w.heap.size + 1) w.heap.size (k + 1) (fun y => numsOf S (gAdd f (l.take (k + 1))) y) ks' p' nb' M' by
            have hEq : (fun y => numsOf S (gAdd f (l.take (k + 1))) y) = (fun y => numsOf S (pF G e j) y) := funext fun y => by
              rw [hjS2, ← hG.out, pF_end, HTK.out]
            rw [hEq]
            exact HCZ.out)
          have HCC := hide (HC1.out.chg HGZ.out (heap_ne HC1.out.c2 HNU.out (by decide)) (heap_ne HC1.out.c5 HNU.out (by decide)))
          go_wp2_with fail
          go_roundw
          case rel => exact ⟨k + 1, by go_num, by omega, hide ⟨ks', p', nb', M', HEND.out, HK1.out⟩, HCC, HOZ⟩
          case measure => simp [intOf]; omega
    · have hkl : k = l.length := by omega
      obtain ⟨ks, p, nb, M, hCM, hKS⟩ := HL.out
      have hall : l.take k = l := List.take_of_length_le (by omega)
      rw [hall] at hCM hKS
      rw [hkl] at hCM
      have HCM := hide hCM
      have HKS := hide hKS
      have y5 : wr.cell? ⟨w.heap.size + 1 + 1, 0, none⟩ = some (.map (some (w.heap.size + 1))) := (cell_of_heap HC.out.c5).trans rfl
      clear hall hCM hKS HL
      go_wp2_with fail
      go_ret
      exact ⟨w.heap.size + 1, ks, p, nb, M, rfl, by omega, HCM.out, HKS.out, HO.out⟩
end Go.Proofs.YtmfbblcipakaiaaGreatDoor

/-! ### What Apply keeps while it goes: appends of items and of numbers; the next groups. No walk here. -/
/-! ### What Apply keeps while it goes: appends of items and of numbers; the next groups. No walk here. -/
namespace Go.Proofs.YtmfbblcipakaiaaGreatDoor
open Go.RowKit

theorem Kept.refl (T base : Nat) (w : World) : Kept T base w w := ⟨Below.refl _ _, fun _ _ _ _ h _ => h⟩
theorem Kept.trans {T base : Nat} {a b c : World} (h : Kept T base a b) (k : Kept T base b c) : Kept T base a c := ⟨h.low.trans k.low, fun p cs T' f hh hT => k.other p cs T' f (h.other p cs T' f hh hT) hT⟩
theorem Kept.then {T base : Nat} {a b c : World} (h : Kept T base a b) (k : Old b c) (hb : base ≤ b.heap.size) : Kept T base a c := ⟨h.low.trans (k.mono hb), fun p cs T' f hh hT => k.heap (h.other p cs T' f hh hT)⟩

/-! ### append of items whose rows are new, too -/
theorem itemVals_cell2 : ∀ (vs : List Value) (l : List Item), (∀ v ∈ vs, v.oneCell' = true) → ∀ u ∈ itemVals vs l, u.oneCell' = true
  | [], l, _, u, hu => by simp [itemVals] at hu
  | _ :: _, [], _, u, hu => by simp [itemVals] at hu
  | v :: vs, x :: l, h, u, hu => by
    simp only [itemVals, List.mem_cons] at hu
    rcases hu with rfl | rfl | hu
    · exact h _ (by simp)
    · rfl
    · exact itemVals_cell2 vs l (fun v hv => h v (by simp [hv])) u hu
theorem step_push_seen {o : Oper} {a : Act} {K : Act → World → Prop} {Q : Exit → Act → World → Prop} (w : World) (s x : Operand)
    (ho : o.op = .call { callee := .builtin .append, args := #[s, x], argTypes := #[33, 33] })
    (base : Nat) (v : Value) (l : List Item) (hs : a.eval s = v) (hown : ItemsOwn 60 65 base w v l) (xv : Value) (m : List Item) (hev : a.eval x = xv) (hx : ItemsT 60 65 base w xv m) (hlen : l.length + m.length ≤ 4194304) (hbase : base ≤ w.heap.size)
    (h : ∀ v' w', ItemsOwn 60 65 base w' v' (l ++ m) → Kept 60 base w w' → w.grownBy w' v.ownBlock → K (a.put o.dst v') w') : o.wp Tryz.prog a w K Q := by
  obtain ⟨i0, hi, hz0, hz1, hz2⟩ := info_parts itemInfo
  obtain ⟨vs, e1, e2, e3⟩ := hown
  obtain ⟨us, g1, g2, g3⟩ := hx
  refine wp_append_sl w s x 33 ho base 60 i0 _ 2 32 Tryz.underlying33 hi hz0 hz1 hz2 rfl (by omega) v l.length (itemVals vs l) hs e2
    xv m.length (itemVals us m) hev g2.sl (itemVals_length us m g1) (itemVals_cell2 us m (fun v hv => ?_)) (by unfold maxLen; omega) (by omega) hbase ?_
  · obtain ⟨i, hi, rfl⟩ := List.getElem_of_mem hv
    obtain ⟨A, c, hh, _⟩ := g3 i (by omega) hi
    rw [hh]
    rfl
  · intro v' w' own' hg
    have hK := Kept.of_grown e2 hg hbase
    refine h v' w' ⟨vs ++ us, by simp [e1, g1], ?_, ?_⟩ hK hg
    · rw [itemVals_append vs l _ _ e1, List.length_append]
      exact own'
    · intro i hi hi'
      rcases Nat.lt_or_ge i l.length with hlt | hge
      · have : i < vs.length := by omega
        rw [List.getElem_append_left this]
        simp only [List.getElem_append_left hlt]
        exact hK.slT (e3 i hlt this) (by decide)
      · rw [List.getElem_append_right (by omega)]
        simp only [List.getElem_append_right hge, e1]
        exact hK.slT (g3 _ (by simp at hi; omega) (by simp at hi'; omega)) (by decide)
/-- items that lie behind the row that was written -/
theorem ItemsT.behind {lo : Nat} {w w' : World} {v xv : Value} {m : List Item} (hx : ItemsT 60 65 lo w xv m) (hg : w.grownBy w' v.ownBlock) (hlt : ∀ g, v.ownBlock = some g → g < lo) : ItemsT 60 65 lo w' xv m := by
  cases hv : v.ownBlock with
  | none =>
    rw [hv] at hg
    exact hx.old ⟨hg.os, hg.tape, hg.output, hg.size, fun j hj => hg.block j hj (by simp)⟩
  | some g =>
    rw [hv] at hg
    exact hx.chg (Chg.of_grown hg) (fun b _ _ _ hb _ e => by have := hlt g hv; omega)
theorem own_lt {base : Nat} {w : World} {v : Value} {l : List Item} (hown : ItemsOwn 60 65 base w v l) : ∀ g, v.ownBlock = some g → g < w.heap.size := by
  intro g hg
  obtain ⟨vs, _, e2, _⟩ := hown
  exact (e2.lt g hg).2

/-! ### append of a number -/
theorem numInfo : (Tryz.prog.info? 2).map (fun i => (i.zero, i.size, i.bytes)) = some (some (.int .i64 0), 1, 8) := by kernel_rfl
theorem numVals_append (a b : List Int) : numVals (a ++ b) = numVals a ++ numVals b := by simp [numVals]
theorem numVals_cell (l : List Int) : ∀ u ∈ numVals l, u.oneCell' = true := by
  intro u hu
  obtain ⟨n, _, rfl⟩ := List.mem_map.1 hu
  rfl
theorem one_num {w : World} {g cap : Nat} {n : Int} (h0 : w.cell? ⟨g, 0, none⟩ = some (.int .i64 n)) (hc : 1 ≤ cap) (hm : cap ≤ maxLen) : Sl w (.slice (some ⟨g, 0, none⟩) 1 cap) 1 (numVals [n]) := by
  refine ⟨_, cap, rfl, hc, hm, fun _ => ⟨g, 0, rfl, fun j u hu => ?_⟩⟩
  match j, hu with
  | 0, hu => simp [numVals] at hu; subst hu; exact h0
  | j + 1, hu => simp [numVals] at hu
theorem step_push_num {o : Oper} {a : Act} {K : Act → World → Prop} {Q : Exit → Act → World → Prop} (w : World) (s x : Operand)
    (ho : o.op = .call { callee := .builtin .append, args := #[s, x], argTypes := #[61, 61] })
    (base : Nat) (v : Value) (m : Nat) (l : List Int) (hs : a.eval s = v) (hown : w.ownsRow base 2 1 v m (numVals l)) (xv : Value) (n : Int) (hev : a.eval x = xv) (hx : Sl w xv 1 (numVals [n])) (hlen : m + 1 ≤ 4194304) (hbase : base ≤ w.heap.size)
    (h : ∀ v' w', w'.ownsRow base 2 1 v' (m + 1) (numVals (l ++ [n])) → Kept 2 base w w' → K (a.put o.dst v') w') : o.wp Tryz.prog a w K Q := by
  obtain ⟨i0, hi, hz0, hz1, hz2⟩ := info_parts numInfo
  refine wp_append_sl w s x 61 ho base 2 i0 _ 1 8 Tryz.underlying61 hi hz0 hz1 hz2 rfl (by omega) v m (numVals l) hs hown
    xv 1 (numVals [n]) hev hx (by simp [numVals]) (numVals_cell _) (by unfold maxLen; omega) (by omega) hbase ?_
  intro v' w' own' hg
  refine h v' w' ?_ (Kept.of_grown hown hg hbase)
  rw [numVals_append]
  exact own'

/-! ### the next groups -/
/-- a group's state, whose slices lie in blocks of their types from lo on -/
def GEntT (w : World) (lo : Nat) (k : List Cell) (ns : List Int) (v : Value) : Prop :=
  ∃ a b, v = stVal a b ∧ SlT 65 lo w a k.length (rowVals k) ∧ SlT 2 lo w b ns.length (numVals ns)
theorem GEntT.old {w w' : World} {lo : Nat} {k : List Cell} {ns : List Int} {v : Value} (h : GEntT w lo k ns v) (o : Old w w') : GEntT w' lo k ns v := by
  obtain ⟨a, b, rfl, h1, h2⟩ := h
  exact ⟨a, b, rfl, h1.old o, h2.old o⟩
theorem GEntT.kept {w w' : World} {lo base : Nat} {k : List Cell} {ns : List Int} {v : Value} (h : GEntT w lo k ns v) (o : Kept 60 base w w') : GEntT w' lo k ns v := by
  obtain ⟨a, b, rfl, h1, h2⟩ := h
  exact ⟨a, b, rfl, o.slT h1 (by decide), o.slT h2 (by decide)⟩
theorem GEntT.turn {w w' : World} {lo : Nat} {k : List Cell} {ns : List Int} {v : Value} (h : GEntT w lo k ns v) {X : Nat → Prop} (c : Chg X w w') (hd : ∀ (b : Nat) cs T f, lo ≤ b → w.heap[b]? = some (.cells cs T f) → ¬ X b) : GEntT w' lo k ns v := by
  obtain ⟨a, b, rfl, h1, h2⟩ := h
  exact ⟨a, b, rfl, h1.chg c (fun b cs f hl hh => hd b cs _ f hl hh), h2.chg c (fun b cs f hl hh => hd b cs _ f hl hh)⟩
/-- the map bn has the groups of the keys `done` -/
structure GNext (w : World) (bn n lo S : Nat) (f : Gf) (done : List (List Cell)) (M : ByteArray → Option Value) : Prop where
  map : MapIs Tryz.prog 9 w bn n M
  at_ : ∀ k ∈ done, ∃ v, M (nameOf k) = some v ∧ GEntT w lo k (numsOf S f k) v
  names : ∀ s v, M s = some v → ∃ k ∈ done, s = nameOf k
section
variable {w w' : World} {bn n lo S : Nat} {f : Gf} {done : List (List Cell)} {M : ByteArray → Option Value}
theorem GNext.old (h : GNext w bn n lo S f done M) (o : Old w w') : GNext w' bn n lo S f done M :=
  ⟨h.map.old o, fun k hk => by obtain ⟨v, h1, h2⟩ := h.at_ k hk; exact ⟨v, h1, h2.old o⟩, h.names⟩
theorem GNext.kept {base : Nat} (h : GNext w bn n lo S f done M) (o : Kept 60 base w w') (hb : bn < base) : GNext w' bn n lo S f done M :=
  ⟨h.map.keep (o.low.block bn hb), fun k hk => by obtain ⟨v, h1, h2⟩ := h.at_ k hk; exact ⟨v, h1, h2.kept o⟩, h.names⟩
theorem GNext.turn {X : Nat → Prop} (h : GNext w bn n lo S f done M) (c : Chg X w w') (hb : ¬ X bn) (hd : ∀ (b : Nat) cs T f, lo ≤ b → w.heap[b]? = some (.cells cs T f) → ¬ X b) : GNext w' bn n lo S f done M :=
  ⟨h.map.chg c hb, fun k hk => by obtain ⟨v, h1, h2⟩ := h.at_ k hk; exact ⟨v, h1, h2.turn c hd⟩, h.names⟩
theorem GNext.made (w : World) (lo S : Nat) (f : Gf) : GNext (w.alloc (.map #[] 0)) w.heap.size 0 lo S f [] (fun _ => none) :=
  ⟨MapIs.made w _ _, fun _ h => (by cases h), fun _ _ h => (by cases h)⟩
theorem GNext.put {k : List Cell} {v : Value} (h : GNext w bn n lo S f done M) (hm : MapIs Tryz.prog 9 w' bn (n + 1) (upd M (nameOf k) (some v))) (hg : w.grownBy w' (some bn)) (hv : GEntT w lo k (numsOf S f k) v) : GNext w' bn (n + 1) lo S f (done ++ [k]) (upd M (nameOf k) (some v)) := by
  obtain ⟨es, cl, hbm⟩ := h.map.isMap
  have hd : ∀ (b : Nat) cs T f, lo ≤ b → w.heap[b]? = some (.cells cs T f) → ¬ b = bn := by
    rintro b cs T f _ hh rfl
    rw [hbm] at hh
    cases hh
  refine ⟨hm, fun j hj => ?_, fun s u hu => ?_⟩
  · unfold upd
    by_cases e : j = k
    · subst e
      exact ⟨v, if_pos rfl, hv.turn (Chg.of_grown hg) hd⟩
    · rw [if_neg (fun hh => e (nameOf_inj hh))]
      obtain ⟨u, h1, h2⟩ := h.at_ j (by simpa [e] using hj)
      exact ⟨u, h1, h2.turn (Chg.of_grown hg) hd⟩
  · unfold upd at hu
    by_cases e : s = nameOf k
    · exact ⟨k, by simp, e⟩
    · rw [if_neg e] at hu
      obtain ⟨j, hj, hs⟩ := h.names s u hu
      exact ⟨j, by simp [hj], hs⟩
end
/-- the groups when some of them have been turned -/
def mixF (f g : Gf) (done : List (List Cell)) : Gf := fun k i => if k ∈ done then g k i else f k i
theorem mix_nums {f g : Gf} {done : List (List Cell)} {S : Nat} (k : List Cell) : numsOf S (mixF f g done) k = if k ∈ done then numsOf S g k else numsOf S f k := by
  unfold numsOf mixF
  split <;> rfl
theorem leftB_mix {f g : Gf} {done : List (List Cell)} {S : Nat} (k : List Cell) : leftB S (mixF f g done) k = if k ∈ done then leftB S g k else leftB S f k := by
  unfold leftB
  rw [mix_nums]
  split <;> rfl
theorem mix_all {f : Gf} {l : List Ent} {done : List (List Cell)} (h : KeysOf l done) : mixF f (gAdd f l) done = gAdd f l := by
  funext k i
  unfold mixF
  split
  · rfl
  · rename_i hk
    unfold gAdd
    rw [tot_none (fun e he hh => hk ((h k).2 ⟨e, he, hh⟩))]
    omega
/-- a group is put into the groups -/
theorem GMap.put {w W w' : World} {bm n K S : Nat} {f g : Gf} {done : List (List Cell)} {B : Nat → Prop} {M : ByteArray → Option Value} {k : List Cell} {v : Value} (h : GMap w bm n K S (mixF f g done) (leftB S (mixF f g done)) B M) (ho : Old w W) (hk : k.length = K) (hL : leftB S g k = true)
    (hm : MapIs Tryz.prog 9 w' bm (n + 1) (upd M (nameOf k) (some v))) (hg : W.grownBy w' (some bm)) (hv : GEnt W B k (numsOf S g k) v) (hB : ¬ B bm) : GMap w' bm (n + 1) K S (mixF f g (done ++ [k])) (leftB S (mixF f g (done ++ [k]))) B (upd M (nameOf k) (some v)) := by
  have hd : ∀ b, b < W.heap.size → B b → ¬ b = bm := by rintro b _ hb rfl; exact hB hb
  have hmem : ∀ j, j ≠ k → (j ∈ done ++ [k] ↔ j ∈ done) := fun j hj => by simp [hj]
  refine ⟨hm, fun j hj => ?_, fun j hj => ?_, fun s u hu => ?_⟩
  · unfold upd
    by_cases e : j = k
    · subst e
      rw [leftB_mix, if_pos (by simp), hL] at hj
      cases hj
    · rw [if_neg (fun hh => e (nameOf_inj hh))]
      refine h.none_ j ?_
      rw [leftB_mix] at hj ⊢
      simpa only [hmem j e] using hj
  · unfold upd
    by_cases e : j = k
    · subst e
      refine ⟨v, if_pos rfl, ?_⟩
      rw [mix_nums, if_pos (by simp)]
      exact hv.chg (Chg.of_grown hg) hd
    · rw [if_neg (fun hh => e (nameOf_inj hh))]
      obtain ⟨u, h1, h2⟩ := h.some_ j (by rw [leftB_mix] at hj ⊢; simpa only [hmem j e] using hj)
      refine ⟨u, h1, ?_⟩
      rw [mix_nums] at h2 ⊢
      simp only [hmem j e]
      exact (h2.old ho).chg (Chg.of_grown hg) hd
  · unfold upd at hu
    by_cases e : s = nameOf k
    · exact ⟨k, hk, e, by rw [leftB_mix, if_pos (by simp), hL]⟩
    · rw [if_neg e] at hu
      obtain ⟨j, hj, hs, h3⟩ := h.names s u hu
      have hne : j ≠ k := by rintro rfl; exact e hs
      refine ⟨j, hj, hs, ?_⟩
      rw [leftB_mix] at h3 ⊢
      simpa only [hmem j hne] using h3
/-- a group of which nothing is left is put in, and taken away -/
theorem GMap.drop {w w' : World} {bm n K S : Nat} {f g : Gf} {done : List (List Cell)} {B : Nat → Prop} {M : ByteArray → Option Value} {k : List Cell} {v : Value} (h : GMap w bm n K S (mixF f g done) (leftB S (mixF f g done)) B M) (hL : leftB S g k = false)
    (hm : MapIs Tryz.prog 9 w' bm (n + 1) (upd (upd M (nameOf k) (some v)) (nameOf k) none)) (hg : Chg (fun b => b = bm) w w') (hB : ¬ B bm) : GMap w' bm (n + 1) K S (mixF f g (done ++ [k])) (leftB S (mixF f g (done ++ [k]))) B (upd (upd M (nameOf k) (some v)) (nameOf k) none) := by
  have hd : ∀ b, b < w.heap.size → B b → ¬ b = bm := by rintro b _ hb rfl; exact hB hb
  have hmem : ∀ j, j ≠ k → (j ∈ done ++ [k] ↔ j ∈ done) := fun j hj => by simp [hj]
  refine ⟨hm, fun j hj => ?_, fun j hj => ?_, fun s u hu => ?_⟩
  · unfold upd
    by_cases e : j = k
    · subst e; rw [if_pos rfl]
    · rw [if_neg (fun hh => e (nameOf_inj hh)), if_neg (fun hh => e (nameOf_inj hh))]
      refine h.none_ j ?_
      rw [leftB_mix] at hj ⊢
      simpa only [hmem j e] using hj
  · have e : j ≠ k := by
      rintro rfl
      rw [leftB_mix, if_pos (by simp), hL] at hj
      cases hj
    unfold upd
    rw [if_neg (fun hh => e (nameOf_inj hh)), if_neg (fun hh => e (nameOf_inj hh))]
    obtain ⟨u, h1, h2⟩ := h.some_ j (by rw [leftB_mix] at hj ⊢; simpa only [hmem j e] using hj)
    refine ⟨u, h1, ?_⟩
    rw [mix_nums] at h2 ⊢
    simp only [hmem j e]
    exact h2.chg hg hd
  · unfold upd at hu
    by_cases e : s = nameOf k
    · rw [if_pos e] at hu; cases hu
    · rw [if_neg e, if_neg e] at hu
      obtain ⟨j, hj, hs, h3⟩ := h.names s u hu
      have hne : j ≠ k := by rintro rfl; exact e hs
      refine ⟨j, hj, hs, ?_⟩
      rw [leftB_mix] at h3 ⊢
      simpa only [hmem j hne] using h3
end Go.Proofs.YtmfbblcipakaiaaGreatDoor

/-! ### The state of Apply's loops. No walk here. -/
namespace Go.Proofs.YtmfbblcipakaiaaGreatDoor
open Go.RowKit

section
variable {w w' : World} {bc r lo n cnt base p0 n0 : Nat} {M : ByteArray → Option Value} {left : ByteArray → Bool} {F : List Cell → List Int} {ks : List (List Cell)} {p nb : List Cell → Nat} {k : List Cell} {ns : List Int}
theorem MapRng.noCells {P : Program} {t : TypeId} (h : MapRng P t w bc r n M left cnt) : ∀ cs T f, w.heap[r]? ≠ some (.cells cs T f) := by
  obtain ⟨D, lf, ⟨es, clock, since, seen, c0, q1, F, q2, q3, q4, rest⟩, _⟩ := h
  intro cs T f hh
  rw [q4] at hh
  cases hh
theorem MapRng.noMap {P : Program} {t : TypeId} (h : MapRng P t w bc r n M left cnt) {b m : Nat} {N : ByteArray → Option Value} (hm : MapIs P t w b m N) : r ≠ b := by
  obtain ⟨D, lf, ⟨es, clock, since, seen, c0, q1, F, q2, q3, q4, rest⟩, _⟩ := h
  obtain ⟨es', c', hh⟩ := hm.isMap
  rintro rfl
  rw [q4] at hh
  cases hh
theorem MapRng.below {P : Program} {t : TypeId} (h : MapRng P t w bc r n M left cnt) {lo : Nat} (o : Below lo w w') (hb : bc < lo) (hr : r < lo) : MapRng P t w' bc r n M left cnt :=
  h.chg (Chg.of_below o) (by omega) (by omega)
theorem ChgAt.kept {T : TypeId} (h : ChgAt w lo p0 n0 k ns) (o : Kept T base w w') (h1 : 79 ≠ T) (h2 : 84 ≠ T) (h3 : 65 ≠ T) : ChgAt w' lo p0 n0 k ns := by
  obtain ⟨⟨kv, a1, a2⟩, a3, a4, a5⟩ := h
  exact ⟨⟨kv, o.other _ _ _ _ a1 h1, o.slT a2 h3⟩, o.other _ _ _ _ a3 h2, a4, a5⟩
theorem CMap.kept (h : CMap w bc lo n F ks p nb M) (o : Kept 60 base w w') (hb : bc < base) : CMap w' bc lo n F ks p nb M :=
  ⟨h.map.keep (o.low.block bc hb), h.val, h.names, fun k hk => (h.at_ k hk).kept o (by decide) (by decide) (by decide), h.apart, h.nodup⟩
end

/-- the state of Apply's first loop: the keys `done` are gone through -/
structure ApSt (w : World) (bc bn r base n S : Nat) (f : Gf) (l : List Ent) (ks : List (List Cell)) (p nb : List Cell → Nat) (M : ByteArray → Option Value) (done : List (List Cell)) (o : Value) (wr : World) : Prop where
  old : Old w wr
  rng : ∃ left, MapRng Tryz.prog 9 wr bc r n M left (wr.rangeLeft bc r) ∧ ∀ k, left (nameOf k) = (decide (k ∈ ks) && !decide (k ∈ done))
  ch : CMap wr bc w.heap.size n (fun x => numsOf S (gAdd f l) x) ks p nb M
  nx : ∃ MN, GNext wr bn done.length w.heap.size S (gAdd f l) done MN
  its : ItemsOwn 60 65 base wr o (bothAll S f (gAdd f l) done)
  nodup : done.Nodup
  sub : ∀ k ∈ done, k ∈ ks
  fits : ∀ k ∈ done, ∀ i, i ≤ S → fit (gAdd f l k i)
  lowc : w.heap.size ≤ bc ∧ bc < base
  lown : w.heap.size ≤ bn ∧ bn < base
  lowr : w.heap.size ≤ r ∧ r < base
  neq : bc ≠ bn
section
variable {w wr w1 wz w6 w7 : World} {bc bn r base n S : Nat} {f : Gf} {l : List Ent} {ks done : List (List Cell)} {p nb : List Cell → Nat} {M MN : ByteArray → Option Value} {o v v7 : Value} {left : ByteArray → Bool} {cnt : Nat} {k : List Cell}
/-- behind the step of the range -/
structure ApMid (w : World) (bc bn r base n S : Nat) (f : Gf) (l : List Ent) (ks : List (List Cell)) (p nb : List Cell → Nat) (M MN : ByteArray → Option Value) (left : ByteArray → Bool) (cnt : Nat) (done : List (List Cell)) (o : Value) (w1 : World) : Prop where
  old : Old w w1
  rng : MapRng Tryz.prog 9 w1 bc r n M left cnt
  ch : CMap w1 bc w.heap.size n (fun x => numsOf S (gAdd f l) x) ks p nb M
  nx : GNext w1 bn done.length w.heap.size S (gAdd f l) done MN
  its : ItemsOwn 60 65 base w1 o (bothAll S f (gAdd f l) done)
  base : base ≤ w1.heap.size
theorem ItemsOwn.chg {tI tC base : Nat} {w w' : World} {v : Value} {l : List Item} {X : Nat → Prop} (h : ItemsOwn tI tC base w v l) (c : Chg X w w') (hd : ∀ (b : Nat) cs T f, w.heap[b]? = some (.cells cs T f) → ¬ X b) : ItemsOwn tI tC base w' v l := by
  obtain ⟨vs, h1, h2, h3⟩ := h
  refine ⟨vs, h1, ⟨h2.1, ?_⟩, fun i hi hi' => (h3 i hi hi').chg c (fun b cs f _ hh => hd b cs _ f hh)⟩
  rcases h2.2 with h | ⟨g, cap, cur, hv, hb, hh, r⟩
  · exact .inl h
  · exact .inr ⟨g, cap, cur, hv, hb, (c.block g (block_lt hh) (hd g _ _ _ hh)).trans hh, r⟩
theorem ApSt.mid (h : ApSt w bc bn r base n S f l ks p nb M done o wr) (hN : GNext wr bn done.length w.heap.size S (gAdd f l) done MN) (hrg : MapRng Tryz.prog 9 w1 bc r n M left cnt) (hg : wr.grownBy w1 (some r)) (hb : base ≤ wr.heap.size) : ApMid w bc bn r base n S f l ks p nb M MN left cnt done o w1 := by
  obtain ⟨lf, h1, _⟩ := h.rng
  have hc : ∀ (b : Nat) cs T f, wr.heap[b]? = some (.cells cs T f) → ¬ b = r := by
    rintro b cs T f hh rfl
    exact h1.noCells cs T f hh
  have hC := Chg.of_grown hg
  refine ⟨?_, hrg, h.ch.chg hC (fun e => h1.noMap h.ch.map e.symm) (fun b cs T f _ hh => hc b cs T f hh), hN.turn hC (fun e => h1.noMap hN.map e.symm) (fun b cs T f _ hh => hc b cs T f hh), ItemsOwn.chg h.its hC hc, Nat.le_trans hb hg.size⟩
  exact Below.trans h.old (Chg.below hC (lo := w.heap.size) h.old.size (by have := h.lowr.1; omega))
theorem ApMid.later (h : ApMid w bc bn r base n S f l ks p nb M MN left cnt done o w1) (ho : Old w1 wz) : ApMid w bc bn r base n S f l ks p nb M MN left cnt done o wz :=
  ⟨h.old.trans ho, h.rng.old ho, h.ch.old ho, h.nx.old ho, h.its.old ho, Nat.le_trans h.base ho.size⟩
theorem ApMid.put (h : ApMid w bc bn r base n S f l ks p nb M MN left cnt done o wz) (hm : MapIs Tryz.prog 9 w6 bn (done.length + 1) (upd MN (nameOf k) (some v))) (hg : wz.grownBy w6 (some bn)) (hv : GEntT wz w.heap.size k (numsOf S (gAdd f l) k) v)
    (hne : bc ≠ bn) (hlow : w.heap.size ≤ bn) : Old w w6 ∧ MapRng Tryz.prog 9 w6 bc r n M left cnt ∧ CMap w6 bc w.heap.size n (fun x => numsOf S (gAdd f l) x) ks p nb M ∧ GNext w6 bn (done.length + 1) w.heap.size S (gAdd f l) (done ++ [k]) (upd MN (nameOf k) (some v)) ∧ ItemsOwn 60 65 base w6 o (bothAll S f (gAdd f l) done) := by
  obtain ⟨es, cl, hbm⟩ := h.nx.map.isMap
  have hc : ∀ (b : Nat) cs T f, wz.heap[b]? = some (.cells cs T f) → ¬ b = bn := by
    rintro b cs T f hh rfl
    rw [hbm] at hh
    cases hh
  have hC := Chg.of_grown hg
  refine ⟨Below.trans h.old (Chg.below hC (lo := w.heap.size) h.old.size (by omega)), h.rng.chg hC hne (fun e => h.rng.noMap h.nx.map e), h.ch.chg hC hne (fun b cs T f _ hh => hc b cs T f hh), h.nx.put hm hg hv, ItemsOwn.chg h.its hC hc⟩
theorem ApSt.next (h : ApSt w bc bn r base n S f l ks p nb M done o wr) (h1 : Old w w6) (h2 : MapRng Tryz.prog 9 w6 bc r n M left cnt) (h3 : CMap w6 bc w.heap.size n (fun x => numsOf S (gAdd f l) x) ks p nb M)
    (h4 : GNext w6 bn (done.length + 1) w.heap.size S (gAdd f l) (done ++ [k]) MN) (kp : Kept 60 base w6 w7) (own : ItemsOwn 60 65 base w7 v7 (bothAll S f (gAdd f l) (done ++ [k]))) (hk : k ∈ ks) (hkd : k ∉ done)
    (hleft : ∀ x, left (nameOf x) = (decide (x ∈ ks) && !decide (x ∈ done ++ [k]))) (hf : ∀ i, i ≤ S → fit (gAdd f l k i)) :
    ApSt w bc bn r base n S f l ks p nb M (done ++ [k]) v7 w7 ∧ w7.rangeLeft bc r = cnt := by
  have hR := h2.below kp.low h.lowc.2 h.lowr.2
  have he := hR.left_eq
  refine ⟨⟨Below.trans h1 (kp.low.mono (by have := h.lowc; omega)), ⟨left, by rw [he]; exact hR, hleft⟩, h3.kept kp h.lowc.2, ⟨MN, ?_⟩, own, ?_, ?_, ?_, h.lowc, h.lown, h.lowr, h.neq⟩, he⟩
  · have : (done ++ [k]).length = done.length + 1 := by simp
    rw [this]
    exact h4.kept kp h.lown.2
  · rw [List.nodup_append]
    exact ⟨h.nodup, by simp, fun a ha b hb => by
      have : b = k := by simpa using hb
      subst this
      rintro rfl
      exact hkd ha⟩
  · intro x hx
    rcases List.mem_append.1 hx with hx | hx
    · exact h.sub x hx
    · have : x = k := by simpa using hx
      subst this; exact hk
  · intro x hx
    rcases List.mem_append.1 hx with hx | hx
    · exact h.fits x hx
    · have : x = k := by simpa using hx
      subst this; exact hf
end
theorem heap_set {w : World} {b i : Nat} {cs : Array Value} {T : TypeId} {f : Nat × Nat} (h : w.heap[b]? = some (.cells cs T f)) (u : Value) : (w.setCell ⟨b, i, none⟩ u).heap[b]? = some (.cells (cs.setIfInBounds i u) T f) := by
  simp [World.setCell, Array.getElem?_modify, h]
theorem own_set {w : World} {base T size n b i : Nat} {v : Value} {xs : List Value} (h : w.ownsRow base T size v n xs) (hb : b < base) (u : Value) : (w.setCell ⟨b, i, none⟩ u).ownsRow base T size v n xs := by
  obtain ⟨hl, h2⟩ := h
  refine ⟨hl, ?_⟩
  rcases h2 with h2 | ⟨g, cap, cur, hv, hg, hh, r⟩
  · exact .inl h2
  · refine .inr ⟨g, cap, cur, hv, hg, ?_, r⟩
    rw [Below.heap_setCell w ⟨b, i, none⟩ u g (show g ≠ b by omega)]
    exact hh
/-- what a look-up of a group gives, for seen -/
structure OldSt (w : World) (S : Nat) (f : Gf) (k : List Cell) (gv : Value) : Prop where
  form : ∃ A0 n0 c0 A9 n9 c9, gv = .agg #[.slice A0 n0 c0, .slice A9 n9 c9]
  seen : ∃ (a b : Value) (kk : List Cell) (ns : List Int), gv = .agg #[a, b] ∧ RowIs w a kk ∧ Sl w b ns.length (numVals ns) ∧ seenV kk ns (-1) = seenIt S f k (-1) ∧ kk.length ≤ k.length ∧ ns.length ≤ S + 1
theorem GMap.oldSt {w : World} {bm n K S : Nat} {f : Gf} {B : Nat → Prop} {M : ByteArray → Option Value} (h : GMap w bm n K S f (leftB S f) B M) (k : List Cell) :
    OldSt w S f k ((M (nameOf k)).getD (.agg #[.slice none 0 0, .slice none 0 0])) := by
  cases hL : leftB S f k
  · rw [h.none_ k hL]
    refine ⟨⟨_, _, _, _, _, _, rfl⟩, _, _, [], [], rfl, Sl.nil_ _, Sl.nil_ _, ?_, by simp, by simp⟩
    rw [seenIt_none (leftB_false.1 hL 0 (by omega))]
    rfl
  · obtain ⟨v, hv1, a, b, rfl, ha, hb⟩ := h.some_ k hL
    rw [hv1]
    obtain ⟨A0, c0, rfl⟩ := ha.form
    obtain ⟨A9, c9, rfl⟩ := hb.form
    exact ⟨⟨_, _, _, _, _, _, rfl⟩, _, _, k, numsOf S f k, rfl, ha.sl, hb.sl, seenV_nums S f k (-1), Nat.le_refl _, by rw [numsOf_length]; exact Nat.le_refl _⟩
/-- a call of seen, with its result in the form of a slice -/
def SeenPost (w : World) (l : List Item) (e : Ending) (w' : World) : Prop :=
  ∃ A c, e = .returned (.slice A l.length c) ∧ ItemsT 60 65 w.heap.size w' (.slice A l.length c) l ∧ Old w w'
theorem NewItems.seen {w w' : World} {l : List Item} {e : Ending} (h : NewItems w l e w') : SeenPost w l e w' := by
  obtain ⟨v, rfl, h1, h2⟩ := h
  obtain ⟨vs, e1, ⟨A, c, rfl, r⟩, e3⟩ := h1
  exact ⟨A, c, rfl, ⟨vs, e1, ⟨A, c, rfl, r⟩, e3⟩, h2⟩
theorem OldSt.call {w w' : World} {S : Nat} {f : Gf} {k : List Cell} {gv : Value} (h : OldSt w S f k gv) (ho : Old w w') (hk : k.length ≤ 64) (hS : S ≤ 64) :
    Calls Tryz.prog 37 #[gv, .int .i64 (-1)] w' (SeenPost w' (seenIt S f k (-1))) := by
  obtain ⟨a, b, kk, ns, rfl, ha, hb, he, h1, h2⟩ := h.seen
  rw [← he]
  exact (seen_run a b kk ns (-1) w' (ha.old ho) (hb.old ho) (by omega) (by omega)).mono fun _ _ h => h.seen
theorem GEntT.call {w w' : World} {lo base S : Nat} {g : Gf} {k : List Cell} {a b : Value} (h : GEntT w lo k (numsOf S g k) (.agg #[a, b])) (kp : Kept 60 base w w') (hk : k.length ≤ 64) (hS : S ≤ 64) :
    Calls Tryz.prog 37 #[.agg #[a, b], .int .i64 1] w' (SeenPost w' (seenIt S g k 1)) := by
  obtain ⟨a', b', e, ha, hb⟩ := h.kept kp
  unfold stVal at e
  injection e with e
  have e1 : a = a' := by injection e with e; injection e
  have e2 : b = b' := by injection e with e; injection e with _ e; injection e
  subst e1 e2
  rw [← seenV_nums]
  exact (seen_run a b k _ 1 w' ha.sl hb.sl (by omega) (by rw [numsOf_length]; omega)).mono fun _ _ h => h.seen
end Go.Proofs.YtmfbblcipakaiaaGreatDoor

/-! ### The state of Apply's last loop. No walk here. -/
namespace Go.Proofs.YtmfbblcipakaiaaGreatDoor
open Go.RowKit

theorem seenIt_fine {K S : Nat} {f : Gf} {k : List Cell} {w : Int} (hk : k.length = K) (hw : fit w) : ∀ x ∈ seenIt S f k w, x.row.length = K + (S + 1) ∧ fit x.w := by
  intro x hx
  unfold seenIt at hx
  split at hx
  · cases hx
  · have : x = ⟨rowOf S f k, w⟩ := by simpa using hx
    subst this
    exact ⟨by rw [rowOf_length, hk], hw⟩
theorem bothAll_fine {K S : Nat} {f g : Gf} {ks : List (List Cell)} (hk : ∀ k ∈ ks, k.length = K) : ∀ x ∈ bothAll S f g ks, x.row.length = K + (S + 1) ∧ fit x.w := by
  intro x hx
  obtain ⟨k, hkm, hx⟩ := List.mem_flatMap.1 hx
  rcases List.mem_append.1 hx with hx | hx
  · exact seenIt_fine (hk k hkm) (by unfold fit; omega) x hx
  · exact seenIt_fine (hk k hkm) (by unfold fit; omega) x hx
theorem seenAll_fine {K S : Nat} {f : Gf} {ks : List (List Cell)} {w : Int} (hk : ∀ k ∈ ks, k.length = K) (hw : fit w) : ∀ x ∈ seenAll S f ks w, x.row.length = K + (S + 1) ∧ fit x.w := by
  intro x hx
  obtain ⟨k, hkm, hx⟩ := List.mem_flatMap.1 hx
  exact seenIt_fine (hk k hkm) hw x hx

/-- what a group's state is as a value: two slices -/
@[reducible] def mkSt (c : (Option Addr × Nat × Nat) × (Option Addr × Nat × Nat)) : Value := .agg #[.slice c.1.1 c.1.2.1 c.1.2.2, .slice c.2.1 c.2.2.1 c.2.2.2]
theorem GEntT.mk {w : World} {lo : Nat} {k : List Cell} {ns : List Int} {v : Value} (h : GEntT w lo k ns v) : ∃ c, v = mkSt c := by
  obtain ⟨a, b, rfl, ⟨A, ca, rfl, _⟩, ⟨B, cb, rfl, _⟩⟩ := h
  exact ⟨((A, _, ca), (B, _, cb)), rfl⟩

/-- the state of Apply's last loop: the groups of `don` have been put in -/
structure Ap3 (w : World) (bm bn r K S m n h1 : Nat) (f : Gf) (l : List Ent) (B : Nat → Prop) (all : List (List Cell)) (MN : ByteArray → Option Value) (out : Value) (z : List Item) (don : List (List Cell)) (wr : World) : Prop where
  chg : Chg (fun b => b = bm) w wr
  rng : ∃ left, MapRng Tryz.prog 9 wr bn r n MN left (wr.rangeLeft bn r) ∧ ∀ k, left (nameOf k) = (decide (k ∈ all) && !decide (k ∈ don))
  nx : GNext wr bn n w.heap.size S (gAdd f l) all MN
  map : ∃ MG, GMap wr bm (m + don.length) K S (mixF f (gAdd f l) don) (leftB S (mixF f (gAdd f l) don)) (fun b => B b ∨ (w.heap.size ≤ b ∧ b < h1)) MG
  its : ItemsT 60 65 h1 wr out z
  nodup : don.Nodup
  sub : ∀ k ∈ don, k ∈ all
  lows : w.heap.size ≤ h1 ∧ h1 ≤ r ∧ bn < h1 ∧ w.heap.size ≤ bn ∧ bm < w.heap.size
  nob : ¬ B bm
  bdd : ∀ b, B b → b < w.heap.size
  early : ∀ k ∈ all, ∃ v, MN (nameOf k) = some v ∧ GEnt wr (fun b => w.heap.size ≤ b ∧ b < h1) k (numsOf S (gAdd f l) k) v
section
variable {w wr w1 wz w6 w7 : World} {bm bn r K S m n h1 cnt : Nat} {f : Gf} {l : List Ent} {B : Nat → Prop} {all don : List (List Cell)} {MN : ByteArray → Option Value} {out : Value} {z : List Item} {left : ByteArray → Bool} {k : List Cell} {v : Value}
/-- what is kept where the step's block, the groups' map and new blocks alone are written -/
structure Ap3K (w : World) (bm bn r K S m n h1 : Nat) (f : Gf) (l : List Ent) (B : Nat → Prop) (all : List (List Cell)) (MN : ByteArray → Option Value) (out : Value) (z : List Item) (left : ByteArray → Bool) (cnt : Nat) (wr : World) : Prop where
  chg : Chg (fun b => b = bm) w wr
  rng : MapRng Tryz.prog 9 wr bn r n MN left cnt
  nx : GNext wr bn n w.heap.size S (gAdd f l) all MN
  its : ItemsT 60 65 h1 wr out z
  early : ∀ k ∈ all, ∃ v, MN (nameOf k) = some v ∧ GEnt wr (fun b => w.heap.size ≤ b ∧ b < h1) k (numsOf S (gAdd f l) k) v
theorem Ap3K.old (h : Ap3K w bm bn r K S m n h1 f l B all MN out z left cnt w1) (o : Old w1 wz) : Ap3K w bm bn r K S m n h1 f l B all MN out z left cnt wz :=
  ⟨h.chg.step o, h.rng.old o, h.nx.old o, h.its.old o, fun k hk => by obtain ⟨v, a, b⟩ := h.early k hk; exact ⟨v, a, b.old o⟩⟩
theorem Ap3K.wrote (h : Ap3K w bm bn r K S m n h1 f l B all MN out z left cnt w1) (c : Chg (fun b => b = bm) w1 wz) (hm : ∃ es cl, w1.heap[bm]? = some (.map es cl)) (hlow : bm < w.heap.size) (hbn : w.heap.size ≤ bn) (hr : w.heap.size ≤ r) : Ap3K w bm bn r K S m n h1 f l B all MN out z left cnt wz := by
  obtain ⟨es, cl, hm⟩ := hm
  have hc : ∀ (b : Nat) cs T f, w1.heap[b]? = some (.cells cs T f) → ¬ b = bm := by
    rintro b cs T f hh rfl
    rw [hm] at hh
    cases hh
  exact ⟨h.chg.trans c (fun _ _ e => e) (fun _ _ e => e), h.rng.chg c (by omega) (by omega), h.nx.turn c (by omega) (fun b cs T f _ hh => hc b cs T f hh), h.its.chg c (fun b cs T f _ hh => hc b cs T f hh), fun k hk => by
    obtain ⟨v, a, b⟩ := h.early k hk
    exact ⟨v, a, b.chg c (fun b _ hb e => by omega)⟩⟩
theorem Ap3.begin (h : Ap3 w bm bn r K S m n h1 f l B all MN out z don wr) (hrg : MapRng Tryz.prog 9 w1 bn r n MN left cnt) (hg : wr.grownBy w1 (some r)) : Ap3K w bm bn r K S m n h1 f l B all MN out z left cnt w1 ∧
    ∃ MG, GMap w1 bm (m + don.length) K S (mixF f (gAdd f l) don) (leftB S (mixF f (gAdd f l) don)) (fun b => B b ∨ (w.heap.size ≤ b ∧ b < h1)) MG := by
  obtain ⟨lf, a1, _⟩ := h.rng
  have hc : ∀ (b : Nat) cs T f, wr.heap[b]? = some (.cells cs T f) → ¬ b = r := by
    rintro b cs T f hh rfl
    exact a1.noCells cs T f hh
  have hC := Chg.of_grown hg
  have hl := h.lows
  refine ⟨⟨⟨hC.os.trans h.chg.os, hC.tape.trans h.chg.tape, hC.output.trans h.chg.output, Nat.le_trans h.chg.size hC.size, fun b hb hx => ?_⟩, hrg, h.nx.turn hC (by omega) (fun b cs T f _ hh => hc b cs T f hh), h.its.chg hC (fun b cs T f _ hh => hc b cs T f hh), fun k hk => ?_⟩, ?_⟩
  · exact (hC.block b (Nat.lt_of_lt_of_le hb h.chg.size) (by omega)).trans (h.chg.block b hb hx)
  · obtain ⟨v, a, b⟩ := h.early k hk
    exact ⟨v, a, b.chg hC (fun b _ hb e => by omega)⟩
  · obtain ⟨MG, hM⟩ := h.map
    exact ⟨MG, hM.chg hC (by omega) (fun b _ hb e => by
      rcases hb with hb | hb
      · have := h.bdd b hb; omega
      · omega)⟩
theorem Ap3.next (h : Ap3 w bm bn r K S m n h1 f l B all MN out z don wr) (hK : Ap3K w bm bn r K S m n h1 f l B all MN out z left cnt w7)
    (hM : ∃ MG, GMap w7 bm (m + don.length + 1) K S (mixF f (gAdd f l) (don ++ [k])) (leftB S (mixF f (gAdd f l) (don ++ [k]))) (fun b => B b ∨ (w.heap.size ≤ b ∧ b < h1)) MG)
    (hk : k ∈ all) (hkd : k ∉ don) (hleft : ∀ x, left (nameOf x) = (decide (x ∈ all) && !decide (x ∈ don ++ [k]))) : Ap3 w bm bn r K S m n h1 f l B all MN out z (don ++ [k]) w7 ∧ w7.rangeLeft bn r = cnt := by
  have he := hK.rng.left_eq
  refine ⟨⟨hK.chg, ⟨left, by rw [he]; exact hK.rng, hleft⟩, hK.nx, ?_, hK.its, ?_, ?_, h.lows, h.nob, h.bdd, hK.early⟩, he⟩
  · have : m + (don ++ [k]).length = m + don.length + 1 := by simp; omega
    rw [this]
    exact hM
  · rw [List.nodup_append]
    exact ⟨h.nodup, by simp, fun a ha b hb => by
      have : b = k := by simpa using hb
      subst this
      rintro rfl
      exact hkd ha⟩
  · intro x hx
    rcases List.mem_append.1 hx with hx | hx
    · exact h.sub x hx
    · have : x = k := by simpa using hx
      subst this; exact hk
end
theorem mix_nil (f g : Gf) : mixF f g [] = f := by
  funext k i
  simp [mixF]
theorem Ap3.start {w wr w6 w8 : World} {bm bn K S m n cnt : Nat} {f : Gf} {l : List Ent} {B : Nat → Prop} {all : List (List Cell)} {MN MG : ByteArray → Option Value} {vo : Value} {z : List Item} (hO : Old w wr) (hN : GNext wr bn n w.heap.size S (gAdd f l) all MN) (hMG : GMap w bm m K S f (leftB S f) B MG)
    (hit : ItemsT 60 65 wr.heap.size w6 vo z) (ho6 : Old wr w6) (hrg : MapRng Tryz.prog 9 w8 bn w6.heap.size n MN (fun s => (MN s).isSome) cnt) (ho8 : Old w6 w8) (h1 : w.heap.size ≤ bn) (h2 : bm < w.heap.size) (hb : ¬ B bm) (hd : ∀ b, B b → b < w.heap.size) :
    Ap3 w bm bn w6.heap.size K S m n wr.heap.size f l B all MN vo z [] w8 := by
  have hbn := hN.map.lt
  have o8 := ho6.trans ho8
  have ow8 := hO.trans o8
  refine ⟨Chg.of_old ow8, ⟨_, by rw [hrg.left_eq]; exact hrg, fun k => ?_⟩, hN.old o8, ⟨MG, ?_⟩, hit.old ho8, List.nodup_nil, fun _ h => (by cases h), ⟨hO.size, ho6.size, hbn, h1, h2⟩, hb, hd, fun k hk => ?_⟩
  · by_cases hk : k ∈ all
    · obtain ⟨v, hv, _⟩ := hN.at_ k hk
      simp [hv, hk]
    · have : MN (nameOf k) = none := by
        cases hv : MN (nameOf k) with
        | none => rfl
        | some v =>
          obtain ⟨j, hj, hs⟩ := hN.names _ v hv
          rw [nameOf_inj hs] at hk
          exact absurd hj hk
      simp [this, hk]
  · rw [mix_nil]
    exact (hMG.old ow8).mono (by simp) (fun b _ hb => .inl hb)
  · obtain ⟨v, a, a0, b0, rfl, s1, s2⟩ := hN.at_ k hk
    exact ⟨_, a, GEnt.old ⟨a0, b0, rfl, s1.slb.mono (fun b hb hl => ⟨hl, hb⟩), s2.slb.mono (fun b hb hl => ⟨hl, hb⟩)⟩ o8⟩
theorem keysIn_len (l : List Item) : ∀ ks : List (List Cell), (keysIn ks l).length ≤ ks.length + l.length := by
  induction l with
  | nil => intro ks; exact Nat.le_refl _
  | cons x l ih =>
    intro ks
    have := ih (insKey x.row ks)
    have h2 : (insKey x.row ks).length ≤ ks.length + 1 := by
      unfold insKey
      split
      · omega
      · have := lowAt_le x.row ks
        simp
        omega
    simp only [keysIn, List.foldl_cons, List.length_cons] at *
    omega

theorem normOut_len (l : List Item) : (normOut l).length ≤ l.length := by
  unfold normOut
  split
  · have h1 : (noZero (withW l (keysOf l))).length ≤ (withW l (keysOf l)).length := List.length_filter_le _ _
    have h2 := keysIn_len l []
    unfold keysOf at *
    simp [withW] at *
    omega
  · simp
end Go.Proofs.YtmfbblcipakaiaaGreatDoor

/-! ### The walk of Apply. -/
namespace Go.Proofs.YtmfbblcipakaiaaGreatDoor
open Go.RowKit Go.Maps

/-- what Apply leaves -/
def AppPost (w : World) (g bm K S m : Nat) (f : Gf) (l : List Ent) (B : Nat → Prop) (e : Ending) (w' : World) : Prop :=
  ∃ (h1 : Nat) (out : Value) (z : List Item), e = .returned (.tuple #[out, .int .i64 (appErr K S f l)]) ∧ w.heap.size ≤ h1 ∧ h1 ≤ w'.heap.size ∧ ItemsT 60 65 h1 w' out z ∧ Delta K S f (appF K S f l) z ∧ z.length ≤ l.length * 2 ∧
    GIs w' g bm K S (m + l.length) (appF K S f l) (fun b => B b ∨ (w.heap.size ≤ b ∧ b < h1)) ∧ Chg (fun b => b = bm) w w'
theorem AppPost.same {w w' : World} {g bm K S m : Nat} {f : Gf} {l : List Ent} {B : Nat → Prop} {n : Int} (hG : GIs w g bm K S m f B) (ho : Old w w') (he : appErr K S f l = n) (hf : appF K S f l = f) : AppPost w g bm K S m f l B (.returned (.tuple #[.slice none 0 0, .int .i64 n])) w' := by
  refine ⟨w.heap.size, _, [], by rw [he], Nat.le_refl _, ho.size, ⟨[], rfl, SlT.nil_ _, fun i h => absurd h (by simp)⟩, by rw [hf]; exact Delta.none_ K S f, by simp, ?_, Chg.of_old ho⟩
  rw [hf]
  have h := (hG.old ho).mono (n' := m + l.length) (by omega)
  refine ⟨h.c0, h.c1, h.c2, h.c3, ?_, h.fit, h.len, ?_, ?_⟩
  · obtain ⟨M, hM⟩ := h.map
    exact ⟨M, hM.mono (Nat.le_refl _) (fun b _ hb => .inl hb)⟩
  · rintro b (hb | hb)
    · exact h.low b hb
    · omega
  · rintro (hb | hb)
    · exact h.nob hb
    · omega
theorem over_of {K S : Nat} {f : Gf} {l : List Ent} {k : List Cell} {i : Nat} (hm : allMay K S l = true) (hk : ∃ e ∈ l, e.key = k) (hi : i ≤ S) (hn : ¬ fit (gAdd f l k i)) : appErr K S f l = 50 ∧ appF K S f l = f := by
  refine appErr_over hm ?_
  cases h : okB S f l
  · rfl
  · obtain ⟨e, he, rfl⟩ := hk
    exact absurd (okB_iff.1 h e he i hi) hn
theorem ok_of {K S : Nat} {f : Gf} {l : List Ent} {ks : List (List Cell)} (hm : allMay K S l = true) (hk : KeysOf l ks) (h : ∀ k ∈ ks, ∀ i, i ≤ S → fit (gAdd f l k i)) : appErr K S f l = 0 ∧ appF K S f l = gAdd f l :=
  appErr_ok hm (okB_iff.2 fun e he i hi => h e.key ((hk _).2 ⟨e, he, rfl⟩) i hi)

theorem CMap.lower {w : World} {bc lo lo' n : Nat} {F : List Cell → List Int} {ks : List (List Cell)} {p nb : List Cell → Nat} {M : ByteArray → Option Value} (h : CMap w bc lo n F ks p nb M) (hl : lo' ≤ lo) : CMap w bc lo' n F ks p nb M :=
  ⟨h.map, h.val, h.names, fun k hk => by
    obtain ⟨⟨kv, a1, a2⟩, a3, a4, a5⟩ := h.at_ k hk
    exact ⟨⟨kv, a1, a2.mono hl⟩, a3, Nat.le_trans hl a4, Nat.le_trans hl a5⟩, h.apart, h.nodup⟩
/-- at the first loop -/
theorem ApSt.start {w w1 w3 w4 : World} {bc n S cnt : Nat} {f : Gf} {l : List Ent} {ks : List (List Cell)} {p nb : List Cell → Nat} {M : ByteArray → Option Value} (h1 : Old w w1) (h3 : Old (w1.alloc (.map #[] 0)) w3) (h4 : Old w3 w4) (hs4 : w4.heap.size = w3.heap.size + 1)
    (hbc : (w1.alloc (.map #[] 0)).heap.size ≤ bc) (hcm : CMap w3 bc (w1.alloc (.map #[] 0)).heap.size n (fun x => numsOf S (gAdd f l) x) ks p nb M) (hrg : MapRng Tryz.prog 9 w4 bc w3.heap.size n M (fun s => (M s).isSome) cnt) :
    ApSt w bc w1.heap.size w3.heap.size w4.heap.size n S f l ks p nb M [] (.slice none 0 0) w4 := by
  have hsz : (w1.alloc (.map #[] 0)).heap.size = w1.heap.size + 1 := by simp
  have a1 := h1.size
  have a3 := h3.size
  have a4 := h4.size
  have hb3 := hcm.map.lt
  refine ⟨(h1.alloc _).trans (h3.trans h4), ⟨_, by rw [hrg.left_eq]; exact hrg, fun k => ?_⟩, (hcm.old h4).lower (by omega), ⟨_, ((GNext.made w1 w.heap.size S (gAdd f l)).old h3).old h4⟩, ItemsOwn.nil_ _, List.nodup_nil, fun _ h => (by cases h), fun _ h => (by cases h), by omega, by omega, by omega, by omega⟩
  show (M (nameOf k)).isSome = _
  rw [hcm.val]
  by_cases hk : k ∈ ks <;> simp [hk]

theorem nodup_len {α : Type} [DecidableEq α] : ∀ {a b : List α}, a.Nodup → (∀ x ∈ a, x ∈ b) → a.length ≤ b.length
  | [], _, _, _ => by simp
  | x :: a, b, hn, h => by
    obtain ⟨h1, h2⟩ := List.nodup_cons.1 hn
    have hx : x ∈ b := h x (by simp)
    have := nodup_len (a := a) (b := b.erase x) h2 (fun y hy => by
      have hne : y ≠ x := by rintro rfl; exact h1 hy
      exact (List.mem_erase_of_ne hne).2 (h y (by simp [hy])))
    have e := List.length_erase_of_mem hx
    have : 0 < b.length := List.length_pos_of_mem hx
    simp only [List.length_cons]
    omega
theorem KeysOf.len {l : List Ent} {ks : List (List Cell)} (h : KeysOf l ks) (hn : ks.Nodup) : ks.length ≤ l.length := by
  have := nodup_len (b := l.map (·.key)) hn (fun x hx => by
    obtain ⟨e, he, rfl⟩ := (h x).1 hx
    exact List.mem_map.2 ⟨e, he, rfl⟩)
  simpa using this

theorem part_bd {e : Ent} (h : EntFine e) (i : Nat) : -85070591730234615865843651857942052864 ≤ part e i ∧ part e i ≤ 85070591730234615865843651857942052864 := by
  cases i with
  | zero => have := h.w; unfold fit at this; simp only [part]; omega
  | succ i =>
    simp only [part]
    split
    · rename_i c hc
      split
      · omega
      · have := mul_bd e.w c.n h.w (h.vals c (List.mem_of_getElem? hc))
        omega
    · omega
theorem tot_bd {l : List Ent} (h : ∀ e ∈ l, EntFine e) (k : List Cell) (i : Nat) : -(l.length * 85070591730234615865843651857942052864 : Int) ≤ tot l k i ∧ tot l k i ≤ l.length * 85070591730234615865843651857942052864 := by
  induction l with
  | nil => simp [tot]
  | cons e l ih =>
    obtain ⟨h1, h2⟩ := ih (fun x hx => h x (by simp [hx]))
    obtain ⟨h3, h4⟩ := part_bd (h e (by simp)) i
    simp only [tot, List.length_cons]
    split <;> omega
theorem add_bd {l : List Ent} {f : Gf} {S : Nat} (h : ∀ e ∈ l, EntFine e) (hf : GFit S f) (hn : l.length ≤ 10000) (k : List Cell) {i : Nat} (hi : i ≤ S) :
    -3138550867693340381917894711603833208051177722232017256448 ≤ gAdd f l k i ∧ gAdd f l k i < 3138550867693340381917894711603833208051177722232017256448 := by
  have h1 := tot_bd h k i
  have h2 := hf k i hi
  unfold fit at h2
  unfold gAdd
  omega

set_option maxRecDepth 100000 in
set_option maxHeartbeats 8000000 in
theorem apply_run (g bm K S m : Nat) (f : Gf) (B : Nat → Prop) (v : Value) (l : List Ent) (w : World) (hG : GIs w g bm K S m f B) (hKK : K ≤ 64) (hS : S ≤ 64) (hm : m ≤ 20000) (hl : EntsIs w v l) (hn : l.length ≤ 5000) (hfine : ∀ e ∈ l, EntFine e) (hp : PowTab w) :
    Calls Tryz.prog 12 #[.pointer (some ⟨g, 0, none⟩), v] w (AppPost w g bm K S m f l B) := by
  have HG := hide hG
  have HL := hide hl
  have HFI := hide hfine
  have HP := hide hp
  obtain ⟨A, ca, -, -, rfl, -⟩ := hl.open_
  have ob := fun o => (Old.refl w).alloc o
  have CN := hide (fun o => none_made g (w.alloc o) ((ob o).cell hG.c0))
  have CM := hide (fun o (q : (w.alloc o).cell? ⟨w.heap.size, 0, none⟩ = some (.pointer (some ⟨g, 0, none⟩))) => contains_may w.heap.size g K S _ l (w.alloc o) q (GHead.old ⟨hG.c0, hG.c1, hG.c2⟩ (ob o)) (hl.old (ob o)) (by omega) (by omega))
  have hmm := @run_makeMap Tryz.prog
  clear hG hl hfine hp
  go_enter Tryz.func12, Tryz.ntmps12
  go_wp2_with fail
  refine (CN.out _).mono ?_
  rintro e w1 ⟨rfl, rfl⟩
  go_wp2_with fail
  refine (CM.out _ (by go_simp)).mono ?_
  rintro e w1 ⟨rfl, h1⟩
  cases hmay : allMay K S l
  · have HE := hide (appErr_may (S := S) (f := f) hmay)
    have HO := hide ((ob _).trans h1)
    clear h1 hmay
    go_wp2_with fail
    go_ret2
    exact AppPost.same HG.out HO.out HE.out.1 HE.out.2
  · have HMAY := hide hmay
    have HO := hide ((ob _).trans h1)
    have q1 : w1.cell? ⟨w.heap.size, 0, none⟩ = some (.pointer (some ⟨g, 0, none⟩)) := h1.cell (by go_simp)
    have Q1 := hide (h1.heap (heap_alloc_at (w := w) (.cells #[.pointer (some ⟨g, 0, none⟩)] 24)))
    have hq : w.heap.size < w1.heap.size := Nat.lt_of_lt_of_le (by simp) h1.size
    clear h1 hmay CN CM
    go_wp2_with fail
    obtain ⟨MG, hMG⟩ := HG.out.map
    have HMG := hide hMG
    have hsz2 : (w1.alloc (.map #[] 0)).heap.size = w1.heap.size + 1 := by simp
    have O2 := hide (HO.out.alloc (.map #[] 0))
    have HALL := hide (fun e he => entMay_iff.1 (List.all_eq_true.1 HMAY.out e he))
    refine (changes_run g bm K S m f MG B _ l _ (O2.out.cell HG.out.c2) (O2.out.cell HG.out.c3) (HMG.out.old O2.out) hS HG.out.fit (HL.out.old O2.out) (by omega) HFI.out (fun e he => (HALL.out e he).2.1) (HP.out.old O2.out)).mono ?_
    rintro e w3 ⟨bc, ks, p, nb, M, rfl, hbc, hcm, hks, ho3⟩
    obtain ⟨w4, hrun, ⟨cnt, hrg⟩, ho4, hs4⟩ := hcm.map.range undStr Tryz.underlying74
    have HST := hide (ApSt.start HO.out ho3 ho4 hs4 hbc hcm hrg)
    have HQ4 := hide ((ho3.trans ho4).heap ((Old.alloc (Old.refl w1) (.map #[] 0)).heap Q1.out))
    have HKS := hide hks
    have hbc4 : w.heap.size < bc := by have := HO.out.size; omega
    clear hcm hrg hks hMG q1 Q1 ho3 ho4
    go_wp2_with fail
    obtain ⟨bn, hbn⟩ : ∃ bn, bn = w1.heap.size := ⟨_, rfl⟩
    obtain ⟨r, hr⟩ : ∃ r, r = w3.heap.size := ⟨_, rfl⟩
    obtain ⟨base, hbase⟩ : ∃ base, base = w4.heap.size := ⟨_, rfl⟩
    have hqs : w.heap.size < bn ∧ w.heap.size < r ∧ w.heap.size < base ∧ w.heap.size < bc := by have := hbc; have := HST.out.lowr; have := HST.out.lown; have := HST.out.lowc; omega
    rw [← hbn, ← hr, ← hbase] at HST
    rw [← hbn, ← hr]
    have hw4 : base ≤ w4.heap.size := by omega
    clear hrun hs4 hbn hr hbase
    go_loopw [7] (fun o wr => ∃ done : List (List Cell), Hid (ApSt w bc bn r base l.length S f l ks p nb M done o wr) ∧ base ≤ wr.heap.size ∧ Hid (wr.heap[w.heap.size]? = some (.cells #[.pointer (some ⟨g, 0, none⟩)] 24 (0, 0)))) (fun _ wr => wr.rangeLeft bc r)
    case atStart => exact ⟨[], HST, hw4, HQ4⟩
    case round =>
      obtain ⟨done, HS, hbs, HQ⟩ := hrel
      obtain ⟨left, hrg, hleft⟩ := HS.out.rng
      obtain ⟨MN, hN⟩ := HS.out.nx
      have HRG := hide hrg
      have HLF := hide hleft
      have HN := hide hN
      clear hrg hleft hN
      have hinv : Hid (∀ (s : ByteArray) (v : Value), M s = some v → ∃ c : Nat, v = Value.pointer (some ⟨c, 0, none⟩)) := hide (fun s v hv => by
        obtain ⟨k, hk, rfl⟩ := HS.out.ch.names s v hv
        have h := HS.out.ch.val k
        rw [if_pos hk, hv] at h
        exact ⟨p k, by injection h⟩)
      go_wp2_with (at_next; refine wpList_plain rfl (fun Kc hKc => ?_); refine step_map_next _ _ rfl _ undStr (fun c : Nat => Value.pointer (some ⟨c, 0, none⟩)) bc r l.length M left _ hinv.out rfl HRG.out ?dn ?mr)
      case mr =>
        intro s c w5 cnt' hsl hlk hv hrg' hlt hgr hsz5 hen
        refine hKc _ _ ?_
        clear hKc
        obtain ⟨k, hk, hsk⟩ := HS.out.ch.names s _ hv
        have hkd : k ∉ done := by
          have h := HLF.out k
          rw [← hsk, hlk] at h
          intro hd
          rw [decide_eq_true hd] at h
          simp at h
        have hpk : p k = c := by
          have h := HS.out.ch.val k
          rw [if_pos hk, ← hsk, hv] at h
          injection h with h; injection h with h; injection h with h; injection h with h
          exact h.symm
        have MID := hide (HS.out.mid HN.out hrg' hgr hbs)
        have HKL := hide (show k.length = K by
          obtain ⟨e, he, rfl⟩ := (HKS.out k).1 hk
          exact (HALL.out e he).1)
        have HSK := hide hsk
        obtain ⟨N0, hN0⟩ : ∃ N0, Hid (k.length = N0) := ⟨_, hide rfl⟩
        have hat := MID.out.ch.at_ k hk
        rw [hpk] at hat
        have HNU := hide hat.nums
        obtain ⟨kv, hc0, hkv⟩ := hat.head
        have hlS : (numsOf S (gAdd f l) k).length = S + 1 := numsOf_length _ _ _
        obtain ⟨Nb, hNb⟩ : ∃ Nb, Hid (nb k = Nb) := ⟨_, hide rfl⟩
        rw [hNb.out] at HNU hc0
        have k0 : w5.cell? ⟨c, 0, none⟩ = some kv := (cell_of_heap hc0).trans rfl
        have k1 : w5.cell? ⟨c, 1, none⟩ = some (.slice (some ⟨Nb, 0, none⟩) (S + 1) (S + 1)) := (cell_of_heap hc0).trans (by rw [hlS]; rfl)
        have HQ5 := hide ((hgr.block w.heap.size (block_lt HQ.out) (fun e => by injection e with e; omega)).trans HQ.out)
        have HKV := hide hkv
        obtain ⟨Ak, ck, rfl, -⟩ := id hkv
        have hbs5 : base ≤ w5.heap.size := by omega
        have hgr' := hide hgr
        have hc5 : c < w5.heap.size := block_lt hc0
        have hN5 : Nb < w5.heap.size := block_lt HNU.out
        have hw5 : w.heap.size < w5.heap.size := by omega
        clear hat hc0 hkv hlk hv hrg' hgr hsz5 hpk hsk
        go_wp2_with fail
        go_loopw [44] (fun i wz => ∃ (j : Nat) (u : Value), i = .int .i64 j ∧ j ≤ S + 1 ∧ Hid (wz.heap[w5.heap.size]? = some (.cells #[.slice Ak k.length ck, u] 81 (0, 0))) ∧ Hid (wz.ownsRow (w5.heap.size + 1) 2 1 u j (numVals ((numsOf S (gAdd f l) k).take j))) ∧ Hid (Old w5 wz) ∧ Hid (∀ i, i < j → i ≤ S → fit (gAdd f l k i))) (fun i _ => S + 1 - (intOf i).toNat)
        case atStart => exact ⟨0, _, rfl, by omega, hide (heap_alloc_at (w := w5) _), hide (World.ownsRow_nil _ _ _ _), hide ((Old.refl w5).alloc _), hide (fun _ h => absurd h (by omega))⟩
        case round =>
          obtain ⟨j, u, rfl, hj, HBX, HOW, HOZ, HFT⟩ := hrel
          by_cases hjS : j < S + 1
          · have HNZ := hide (HOZ.out.heap HNU.out)
            have z0 := wide_cells HNZ.out (i := j) (by rw [hlS]; omega)
            rw [nums_at] at z0
            have HTK := hide (take_snoc (l := numsOf S (gAdd f l) k) (k := j) (by rw [hlS]; omega))
            have HGT := hide (nums_at (S := S) (i := j) (gAdd f l) k (by rw [hlS]; omega))
            have HBD := hide (add_bd HFI.out HG.out.fit (by omega) k (i := j) (by omega))
            obtain ⟨X, hX⟩ : ∃ X, Hid (gAdd f l k j = X) := ⟨_, hide rfl⟩
            rw [hX.out] at z0 HBD
            obtain ⟨z0, z1, z2⟩ := z0
            have hNz : Nb < wr.heap.size := Nat.lt_of_lt_of_le hN5 HOZ.out.size
            have hbz : w5.heap.size < wr.heap.size := block_lt HBX.out
            by_cases hfit : fit X
            · have CI := hide (fun o => wide_Int X (wr.alloc o) HBD.out)
              obtain ⟨i1, i2⟩ := int_fit hfit
              rw [i1, i2] at CI
              have HFX := hide hfit
              obtain ⟨Au, cu, rfl, -⟩ := id (SlT.of_own HOW.out)
              clear hfit i1 i2
              go_wp2_with fail
              refine (CI.out _).mono ?_
              rintro e w6 ⟨rfl, hg6⟩
              have O6 := hide (((Old.refl wr).alloc _).trans hg6.old)
              have b1 : w6.cell? ⟨w5.heap.size, 1, none⟩ = some (.slice Au j cu) := O6.out.cell ((cell_of_heap HBX.out).trans rfl)
              have HB6 := hide (O6.out.heap HBX.out)
              have HW6 := hide (own_old HOW.out O6.out)
              have h6 : w5.heap.size + 1 ≤ w6.heap.size := by have := O6.out.size; omega
              have hjl : j + 1 ≤ 4194304 := by omega
              clear hg6 z0 z1 z2
              go_wp2_with (at_builtin; refine wpList_plain rfl (fun Kc hKc => ?_); refine step_push_num _ _ _ rfl (w5.heap.size + 1) _ j _ rfl (own_old HW6.out ((Old.refl w6).alloc _)) _ X rfl (one_num (by go_simp) (Nat.le_refl _) (by unfold maxLen; omega)) hjl (by simp; omega) ?_; intro v' w7 own7 kp7; refine hKc _ _ ?_; clear hKc; have HB7 := hide ((kp7.low.block w5.heap.size (by omega)).trans ((Old.alloc (Old.refl w6) _).heap HB6.out)); have b7 : w7.cell? ⟨w5.heap.size, 1, none⟩ = some (.slice Au j cu) := (cell_of_heap HB7.out).trans rfl; have f7 : w7.frozen? ⟨w5.heap.size, 1, none⟩ = false := free_of_heap HB7.out; obtain ⟨A7, c7, rfl, -⟩ := id (SlT.of_own own7))
              have O7 := hide (kp7.old ((HOZ.out.trans O6.out).alloc _) (by omega))
              go_roundw
              case rel =>
                refine ⟨j + 1, .slice A7 (j + 1) c7, by go_num, by omega, hide (heap_set HB7.out _), hide (own_set (by rw [HTK.out, HGT.out, hX.out]; exact own7) (Nat.lt_succ_self _) _), hide (Old.setCell O7.out (Nat.le_refl _) _), hide (fun i hi hiS => ?_)⟩
                · rcases Nat.lt_or_ge i j with h | h
                  · exact HFT.out i h hiS
                  · have : i = j := by omega
                    subst this
                    rw [hX.out]
                    exact HFX.out
              case measure => simp [intOf]; omega
            · have CI := hide (fun o => wide_Int X (wr.alloc o) HBD.out)
              obtain ⟨i1, i2⟩ := int_unfit hfit
              rw [i1, i2] at CI
              have HFX := hide hfit
              clear hfit i1 i2
              go_wp2_with fail
              refine (CI.out _).mono ?_
              rintro e w6 ⟨rfl, hg6⟩
              have O6 := hide (MID.out.old.trans (HOZ.out.trans (((Old.refl wr).alloc _).trans hg6.old)))
              have HOV := hide (over_of (K := K) (S := S) (f := f) (l := l) (k := k) (i := j) HMAY.out ((HKS.out k).1 hk) (by omega) (by rw [hX.out]; exact HFX.out))
              clear hg6 z0 z1 z2
              go_wp2_with fail
              go_ret2
              exact AppPost.same HG.out O6.out HOV.out.1 HOV.out.2
          · have hjS2 : j = S + 1 := by omega
            subst hjS2
            have hall : (numsOf S (gAdd f l) k).take (S + 1) = numsOf S (gAdd f l) k := List.take_of_length_le (by rw [hlS]; exact Nat.le_refl _)
            have hOW := HOW.out
            rw [hall] at hOW
            obtain ⟨Au, cu, rfl, -⟩ := id (SlT.of_own hOW)
            have MR := hide (MID.out.later HOZ.out)
            have HE := hide (show GEntT wr w.heap.size k (numsOf S (gAdd f l) k) (.agg #[.slice Ak k.length ck, .slice Au (S + 1) cu]) from ⟨_, _, rfl, HKV.out.old HOZ.out, by
              rw [hlS]; exact (SlT.of_own hOW).mono (by omega)⟩)
            have hdl : done.length ≤ l.length := Nat.le_trans (nodup_len HS.out.nodup HS.out.sub) (HKS.out.len HS.out.ch.nodup)
            obtain ⟨w6, hput, hm6, hg6⟩ := MR.out.nx.map.put undStr Tryz.underlying54 (by unfold maxLen; omega) (s := nameOf k) (by rw [← HSK.out]; exact hsl) (.agg #[.slice Ak k.length ck, .slice Au (S + 1) cu])
            rw [← HSK.out] at hput
            obtain ⟨e1, e2, e3, e4, e5⟩ := MR.out.put hm6 hg6 HE.out HS.out.neq (by have := HS.out.lown; omega)
            have hbn : bn < base := HS.out.lown.2
            have c6 := Chg.of_grown hg6
            have HBX6 := hide ((c6.block w5.heap.size (block_lt HBX.out) (show ¬ w5.heap.size = bn by omega)).trans HBX.out)
            have HQ6 := hide ((c6.block w.heap.size (block_lt (HOZ.out.heap HQ5.out)) (show ¬ w.heap.size = bn by omega)).trans (HOZ.out.heap HQ5.out))
            have HE6 := hide (HE.out.turn c6 (by
              rintro b cs T f _ hh rfl
              exact map_ne hh MR.out.nx.map rfl))
            have hb6 : base ≤ w6.heap.size := Nat.le_trans MR.out.base hg6.size
            have E1 := hide e1
            have E2 := hide e2
            have E3 := hide e3
            have E4 := hide e4
            have E5 := hide e5
            have b0 : wr.cell? ⟨w5.heap.size, 0, none⟩ = some (.slice Ak k.length ck) := (cell_of_heap HBX.out).trans rfl
            have b1 : wr.cell? ⟨w5.heap.size, 1, none⟩ = some (.slice Au (S + 1) cu) := (cell_of_heap HBX.out).trans rfl
            have KO := hide (fun w' (kp : Kept 60 base w6 w') => (show Old w w' from Below.trans E1.out (kp.low.mono (by omega))))
            have y2 : ∀ w', Kept 60 base w6 w' → w'.cell? ⟨w.heap.size, 0, none⟩ = some (.pointer (some ⟨g, 0, none⟩)) := fun w' kp => (cell_of_heap ((kp.low.block _ (by omega)).trans HQ6.out)).trans rfl
            have y3 : ∀ w', Kept 60 base w6 w' → w'.cell? ⟨g, 3, none⟩ = some (.map (some bm)) := fun w' kp => (KO.out w' kp).cell HG.out.c3
            have x0 : ∀ w', Kept 60 base w6 w' → w'.cell? ⟨w5.heap.size, 0, none⟩ = some (.slice Ak k.length ck) := fun w' kp => (cell_of_heap (kp.other _ _ _ _ HBX6.out (by decide))).trans rfl
            have x1 : ∀ w', Kept 60 base w6 w' → w'.cell? ⟨w5.heap.size, 1, none⟩ = some (.slice Au (S + 1) cu) := fun w' kp => (cell_of_heap (kp.other _ _ _ _ HBX6.out (by decide))).trans rfl
            obtain ⟨gv, hgv⟩ : ∃ gv, (MG (nameOf k)).getD (.agg #[.slice none 0 0, .slice none 0 0]) = gv := ⟨_, rfl⟩
            have OS := hide (HMG.out.oldSt k)
            rw [hgv] at OS
            have hlk : ∀ w', Kept 60 base w6 w' → (Instr.lookup 54 (.map (some bm)) (.string s) false).run Tryz.prog w' = .ok gv w' := fun w' kp => by
              have := (HMG.out.map.old (KO.out w' kp)).look undStr Tryz.underlying54 (zero_state w') (s := nameOf k) (by rw [← HSK.out]; exact hsl)
              rw [hgv, ← HSK.out] at this
              exact this
            obtain ⟨A0, n0, c0, A9, n9, c9, rfl⟩ := OS.out.form
            have hk64 : k.length ≤ 64 := by rw [HKL.out]; exact hKK
            have CS1 := hide (fun w' (kp : Kept 60 base w6 w') => OS.out.call (KO.out w' kp) hk64 hS)
            have CS2 := hide (fun w' (kp : Kept 60 base w6 w') => HE6.out.call kp hk64 hS)
            have hl1 : (bothAll S f (gAdd f l) done).length + (seenIt S f k (-1)).length ≤ 4194304 := by have := bothAll_len S f (gAdd f l) done; have := seenIt_len S f k (-1); omega
            have hl2 : (bothAll S f (gAdd f l) done ++ seenIt S f k (-1)).length + (seenIt S (gAdd f l) k 1).length ≤ 4194304 := by have := bothAll_len S f (gAdd f l) done; have := seenIt_len S f k (-1); have := seenIt_len S (gAdd f l) k 1; simp only [List.length_append]; omega
            clear e1 e2 e3 e4 e5 c6 hm6 hg6 hOW hall hgv
            go_wp2_with fail
            go_region_held3 (fun w' => Kept 60 base w6 w')
              (first | (with_reducible exact Kept.trans (by assumption) (by assumption)) | (with_reducible exact Kept.then (by assumption) (by assumption) (Nat.le_trans hb6 (Below.size (Kept.low (by assumption))))) | (exact Kept.then (Kept.refl _ _ _) (Old.drew (Old.refl _)) hb6))
              (first
                | (go_at_call 37; (with_reducible refine (CS1.out _ (by assumption)).mono ?_); rintro e w7 ⟨A7, c7, rfl, hi7, ho7⟩)
                | (go_at_call 37; (with_reducible refine (CS2.out _ (by assumption)).mono ?_); rintro e w9 ⟨A9', c9', rfl, hi9, ho9⟩)
                | (refine step_push_seen _ _ _ rfl base u7 (bothAll S f (gAdd f l) done) rfl (E5.out.old (Old.trans (Old.drew (Old.refl _)) ho7)) _ _ rfl (hi7.mono hb6) hl1 (Nat.le_trans hb6 ho7.size) ?_; intro v8 w8 own8 kp8 gr8)
                | (refine step_push_seen _ _ _ rfl base v8 (bothAll S f (gAdd f l) done ++ seenIt S f k (-1)) rfl (own8.old ho9) _ _ rfl (hi9.mono (Nat.le_trans hb6 (Nat.le_trans ho7.size kp8.low.size))) hl2 (Nat.le_trans hb6 (Nat.le_trans ho7.size (Nat.le_trans kp8.low.size ho9.size))) ?_; intro v10 w10 own10 kp10 gr10)
                | (fail "none fits"))
            have KP := hide (show Kept 60 base w6 w10 by assumption)
            obtain ⟨NX, hcnt⟩ := HS.out.next E1.out E2.out E3.out E4.out KP.out (by rw [bothAll_snoc]; exact own10) hk hkd (fun x => by
              have h := HLF.out x
              by_cases hx : x = k
              · subst hx
                rw [HSK.out]
                simp
              · have hne : ¬ nameOf x = s := by
                  rw [HSK.out]
                  exact fun e => hx (nameOf_inj e)
                rw [h]
                simp [hne, hx]) (fun i hi => HFT.out i (by omega) hi)
            have HNX := hide NX
            have HQ10 := hide ((KP.out.low.block w.heap.size (by omega)).trans HQ6.out)
            have hb10 : base ≤ w10.heap.size := Nat.le_trans hb6 KP.out.low.size
            have HCN := hide hcnt
            clear NX hcnt
            go_wp2_with fail
            go_roundw
            case rel => exact ⟨done ++ [k], HNX, hb10, HQ10⟩
            case measure =>
              rw [HCN.out]
              exact hlt
      case dn =>
        intro hend
        refine hKc _ _ ?_
        clear hKc
        have hdone : ∀ k ∈ ks, k ∈ done := fun k hk => by
          have h := HLF.out k
          rw [hend (nameOf k)] at h
          exact Decidable.byContradiction fun hd => by simp [hk, hd] at h
        have HKD := hide (show KeysOf l done from fun x => ⟨fun hx => (HKS.out x).1 (HS.out.sub x hx), fun hx => hdone x ((HKS.out x).2 hx)⟩)
        have HOK := hide (ok_of (K := K) HMAY.out HKD.out HS.out.fits)
        have hlen : ∀ k ∈ done, k.length = K := fun k hk => by
          obtain ⟨e, he, rfl⟩ := (HKD.out k).1 hk
          exact (HALL.out e he).1
        have hrest : ∀ k, k ∉ done → ∀ i, gAdd f l k i = f k i := fun k hk i => by
          unfold gAdd
          rw [tot_none (fun e he hh => hk ((HKD.out k).2 ⟨e, he, hh⟩))]
          omega
        obtain ⟨hz1, hz2⟩ := both_delta (K := K) (S := S) (f := f) (g := gAdd f l) HS.out.nodup hlen hrest
        have hdl : done.length ≤ l.length := Nat.le_trans (nodup_len HS.out.nodup HS.out.sub) (HKS.out.len HS.out.ch.nodup)
        have hbl := bothAll_len S f (gAdd f l) done
        have hzl := normOut_len (bothAll S f (gAdd f l) done)
        have hfi := bothAll_fine (S := S) (f := f) (g := gAdd f l) hlen
        have CNO := zset_Norm u7 (bothAll S f (gAdd f l) done) wr HS.out.its.t.is (by omega) (fun i hi => by have := (hfi _ (List.getElem_mem hi)).1; omega) (fun x hx => (hfi x hx).2)
        obtain ⟨z, hz⟩ : ∃ z, Hid (normOut (bothAll S f (gAdd f l) done) = z) := ⟨_, hide rfl⟩
        rw [hz1, hz.out] at CNO
        rw [hz.out] at hz2 hzl
        have CN := hide CNO
        have HDZ := hide hz2
        have HZL := hide (show z.length ≤ l.length * 2 by omega)
        clear hz1 hz2 hfi CNO hdone hrest hzl hbl
        go_wp2_with fail
        refine CN.out.mono ?_
        rintro e w6 ⟨vo, rfl, hit, ho6⟩
        obtain ⟨w8, hrun, ⟨cnt2, hrg2⟩, ho8, hs8⟩ := (HN.out.old ho6).map.range undStr Tryz.underlying54
        have HA3 := hide (Ap3.start HS.out.old HN.out HMG.out hit ho6 hrg2 ho8 HS.out.lown.1 HG.out.lt HG.out.nob HG.out.low)
        have HQ8 := hide ((ho6.trans ho8).heap HQ.out)
        obtain ⟨vs0, -, ⟨Ao, co, rfl, -⟩, -⟩ := id hit
        clear hit ho6 ho8 hrg2 hs8 CN
        go_wp2_with fail
        clear hrun
        obtain ⟨r2, hr2⟩ : ∃ r2, r2 = w6.heap.size := ⟨_, rfl⟩
        obtain ⟨h1, hh1⟩ : ∃ h1, h1 = wr.heap.size := ⟨_, rfl⟩
        rw [← hr2, ← hh1] at HA3
        rw [← hr2]
        clear hr2 hh1
        go_loopw [] (fun wr => ∃ don : List (List Cell), Hid (Ap3 w bm bn r2 K S m done.length h1 f l B done MN (.slice Ao z.length co) z don wr) ∧ Hid (wr.heap[w.heap.size]? = some (.cells #[.pointer (some ⟨g, 0, none⟩)] 24 (0, 0)))) (fun wr => wr.rangeLeft bn r2)
        case atStart => exact ⟨[], HA3, HQ8⟩
        case round =>
          obtain ⟨don, H3, HQ3⟩ := hrel
          obtain ⟨left3, hrg, hleft⟩ := H3.out.rng
          have HRG3 := hide hrg
          have HLF3 := hide hleft
          have hinv3 : Hid (∀ (s : ByteArray) (v : Value), MN s = some v → ∃ c, v = mkSt c) := hide (fun s v hv => by
            obtain ⟨k, hk, rfl⟩ := H3.out.nx.names s v hv
            obtain ⟨u, hu, hE⟩ := H3.out.nx.at_ k hk
            rw [hv] at hu
            injection hu with hu
            subst hu
            exact hE.mk)
          clear hrg hleft
          go_wp2_with (at_next; refine wpList_plain rfl (fun Kc hKc => ?_); refine step_map_next _ _ rfl _ undStr mkSt bn r2 done.length MN left3 _ hinv3.out rfl HRG3.out ?dn3 ?mr3)
          case mr3 =>
            intro s A1 n1 c1 A2 n2 c2 w5 cnt' hsl hlk hv hrg' hlt hgr hsz5 hen
            refine hKc _ _ ?_
            clear hKc
            obtain ⟨k, hk, hsk⟩ := H3.out.nx.names s _ hv
            have hkd : k ∉ don := by
              have h := HLF3.out k
              rw [← hsk, hlk] at h
              intro hd
              rw [decide_eq_true hd] at h
              simp at h
            have HSK := hide hsk
            obtain ⟨K5, M5, hM5⟩ := H3.out.begin hrg' hgr
            have K5' := hide K5
            have HM5 := hide hM5
            have hEA : Hid (GEnt w5 (fun b => w.heap.size ≤ b ∧ b < h1) k (numsOf S (gAdd f l) k) (mkSt ((A1, n1, c1), (A2, n2, c2)))) := hide (by
              obtain ⟨u, hu, hE⟩ := K5.early k hk
              rw [← hsk, hv] at hu
              injection hu with hu
              subst hu
              exact hE)
            have hKl : k.length = K := hlen k hk
            have HQ5 := hide ((hgr.block w.heap.size (block_lt HQ3.out) (fun e => by injection e with e; have := H3.out.lows; omega)).trans HQ3.out)
            have hls := H3.out.lows
            have O5 := hide (show Chg (fun b => b = bm) w w5 from K5.chg)
            have hgne : Hid (g ≠ bm) := hide HG.out.ne
            have hw5 : w.heap.size < w5.heap.size := block_lt HQ5.out
            have hg5 : g < w5.heap.size := by have := HG.out.gLt; omega
            clear K5 hM5 hlk hv hrg' hgr hsk hsz5
            go_wp2_with fail
            obtain ⟨W1, hW1⟩ : ∃ W1, Hid (w5.alloc (.cells #[.slice A1 n1 c1, .slice A2 n2 c2] 81) = W1) := ⟨_, hide rfl⟩
            have oW : Old w5 W1 := by rw [← hW1.out]; exact (Old.refl w5).alloc _
            have HBX := hide (show W1.heap[w5.heap.size]? = some (.cells #[.slice A1 n1 c1, .slice A2 n2 c2] 81 (0, 0)) by rw [← hW1.out]; exact heap_alloc_at _)
            have y2 : ∀ q : Later W1, q.world.cell? ⟨w.heap.size, 0, none⟩ = some (.pointer (some ⟨g, 0, none⟩)) := fun q => q.old.cell (oW.cell ((cell_of_heap HQ5.out).trans rfl))
            have y3 : ∀ q : Later W1, q.world.cell? ⟨g, 3, none⟩ = some (.map (some bm)) := fun q => q.old.cell (oW.cell ((World.cell?_of_block (a := ⟨g, 3, none⟩) (O5.out.block g HG.out.gLt hgne.out)).trans HG.out.c3))
            have x0 : ∀ q : Later W1, q.world.cell? ⟨w5.heap.size, 0, none⟩ = some (.slice A1 n1 c1) := fun q => q.old.cell ((cell_of_heap HBX.out).trans rfl)
            have x1 : ∀ q : Later W1, q.world.cell? ⟨w5.heap.size, 1, none⟩ = some (.slice A2 n2 c2) := fun q => q.old.cell ((cell_of_heap HBX.out).trans rfl)
            rw [hW1.out]
            refine region_later_tail 6 (by kernel_rfl) (by kernel_rfl) ?_
            simp only [List.take_succ_cons, List.take_zero, List.drop_succ_cons, List.drop_zero]
            repeat (go_big_quiet_step (fail))
            refine wpQuiet_nil ?_
            rintro wz ⟨⟨_, hwz⟩, rfl⟩
            have oz := oW.trans hwz
            clear y2 y3 x0 x1
            have KZ := hide (K5'.out.old oz)
            have KZO := hide oz
            have HMZ := hide (HM5.out.old oz)
            have hdo : don.length ≤ l.length := Nat.le_trans (nodup_len H3.out.nodup H3.out.sub) hdl
            obtain ⟨w6, hput, hm6, hg6⟩ := HMZ.out.map.put undStr Tryz.underlying54 (by unfold maxLen; omega) (s := nameOf k) (by rw [← HSK.out]; exact hsl) (.agg #[.slice A1 n1 c1, .slice A2 n2 c2])
            rw [← HSK.out] at hput
            have C6 := hide (Chg.of_grown hg6)
            have HE5 := hide (hEA.out.old oz)
            have HBZ := hide (hwz.heap HBX.out)
            have hbm5 : bm < w5.heap.size := by omega
            have HB6 := hide ((C6.out.block w5.heap.size (block_lt HBZ.out) (show ¬ w5.heap.size = bm by omega)).trans HBZ.out)
            have b61 : w6.cell? ⟨w5.heap.size, 1, none⟩ = some (.slice A2 n2 c2) := (cell_of_heap HB6.out).trans rfl
            have K6 := hide (KZ.out.wrote C6.out HMZ.out.map.isMap hls.2.2.2.2 hls.2.2.2.1 (by omega))
            have HE6 := hide (hEA.out.old oz |>.chg C6.out (fun b _ hb e => by omega))
            have HQ6 := hide ((C6.out.block w.heap.size (block_lt (oz.heap HQ5.out)) (show ¬ w.heap.size = bm by omega)).trans (oz.heap HQ5.out))
            have HS6 := hide (show Sl w6 (.slice A2 n2 c2) (numsOf S (gAdd f l) k).length (numVals (numsOf S (gAdd f l) k)) by
              obtain ⟨a, b, e, _, hb⟩ := HE6.out
              unfold stVal at e
              injection e with e
              injection e with e
              have e2 : Value.slice A2 n2 c2 = b := by injection e with _ e; injection e
              rw [e2]
              exact hb.sl)
            have CR := hide (contains_rest _ _ w6 HS6.out)
            have HM6 := hide hm6
            have HG6 := hide hg6
            clear hwz oz hm6 hg6 oW
            go_wp2_with fail
            refine CR.out.mono ?_
            rintro e w7 ⟨rfl, h7⟩
            have O7 := hide h7
            have HLE := hide (show ((numsOf S (gAdd f l) k).any restB) = leftB S (gAdd f l) k from rfl)
            rw [HLE.out]
            clear h7 b61 hput CR
            have hleft' : Hid (∀ x, (left3 (nameOf x) && !decide (nameOf x = s)) = (decide (x ∈ done) && !decide (x ∈ don ++ [k]))) := hide (fun x => by
              have h := HLF3.out x
              by_cases hx : x = k
              · subst hx
                rw [HSK.out]
                simp
              · have hne : ¬ nameOf x = s := by
                  rw [HSK.out]
                  exact fun e => hx (nameOf_inj e)
                rw [h]
                simp [hne, hx])
            have HQ7 := hide (O7.out.heap HQ6.out)
            have HNB : Hid (¬ (B bm ∨ (w.heap.size ≤ bm ∧ bm < h1))) := hide (by
              rintro (h | h)
              · exact H3.out.nob h
              · omega)
            have HE7 := hide (HE5.out.mono (B' := fun b => B b ∨ (w.heap.size ≤ b ∧ b < h1)) (fun b _ hb => .inr hb))
            cases hL : leftB S (gAdd f l) k
            · have HLL := hide hL
              have y2 : w7.cell? ⟨w.heap.size, 0, none⟩ = some (.pointer (some ⟨g, 0, none⟩)) := (cell_of_heap HQ7.out).trans rfl
              have K7 := hide (K6.out.old O7.out)
              have y3 : w7.cell? ⟨g, 3, none⟩ = some (.map (some bm)) := (World.cell?_of_block (a := ⟨g, 3, none⟩) (K7.out.chg.block g HG.out.gLt hgne.out)).trans HG.out.c3
              have HM7 := hide (HM6.out.old O7.out)
              clear hL
              go_wp2_with (at_delete; refine wpList_plain rfl (fun Kc hKc => ?_); refine step_map_del _ _ _ _ _ rfl _ undStr Tryz.underlying54 bm _ _ rfl HM7.out s hsl rfl ?_; intro w8 hm8 hg8; refine hKc _ _ ?_; clear hKc)
              have C8 := hide (Chg.of_grown hg8)
              have K8 := hide (K7.out.wrote C8.out HM7.out.isMap hls.2.2.2.2 hls.2.2.2.1 (by omega))
              have HD8 := hide (GMap.drop HMZ.out HLL.out (by rw [← HSK.out] at hm8 ⊢; exact hm8) ((C6.out.step O7.out).trans C8.out (fun _ _ e => e) (fun _ _ e => e)) HNB.out)
              obtain ⟨NX, hcnt⟩ := H3.out.next K8.out ⟨_, HD8.out⟩ hk hkd hleft'.out
              have HQ8' := hide ((C8.out.block w.heap.size (block_lt HQ7.out) (show ¬ w.heap.size = bm by omega)).trans HQ7.out)
              have HNX := hide NX
              have HCN := hide hcnt
              clear NX hcnt hm8 hg8
              simp only [Act.put]
              go_roundw
              case rel => exact ⟨don ++ [k], HNX, HQ8'⟩
              case measure =>
                rw [HCN.out]
                exact hlt
            · have HLL := hide hL
              have HP6 := hide (GMap.put HM5.out KZO.out hKl HLL.out HM6.out HG6.out HE7.out HNB.out)
              obtain ⟨NX, hcnt⟩ := H3.out.next (K6.out.old O7.out) ⟨_, HP6.out.old O7.out⟩ hk hkd hleft'.out
              have HNX := hide NX
              have HCN := hide hcnt
              clear NX hcnt hL
              go_wp2_with fail
              go_roundw
              case rel => exact ⟨don ++ [k], HNX, HQ7⟩
              case measure =>
                rw [HCN.out]
                exact hlt
          case dn3 =>
            intro hend3
            refine hKc _ _ ?_
            clear hKc
            have hall : ∀ k ∈ done, k ∈ don := fun k hk => by
              have h := HLF3.out k
              rw [hend3 (nameOf k)] at h
              exact Decidable.byContradiction fun hd => by simp [hk, hd] at h
            have HKD3 := hide (show KeysOf l don from fun x => ⟨fun hx => (HKD.out x).1 (H3.out.sub x hx), fun hx => hall x ((HKD.out x).2 hx)⟩)
            have hdo : don.length ≤ l.length := Nat.le_trans (nodup_len H3.out.nodup H3.out.sub) hdl
            have hrl := H3.out.rng
            clear hall
            go_wp2_with fail
            go_ret2
            obtain ⟨lf3, hr3, -⟩ := hrl
            have hls := H3.out.lows
            have hcc := H3.out.chg
            have hne := HG.out.ne
            refine ⟨h1, .slice Ao z.length co, z, by rw [HOK.out.1]; rfl, hls.1, by have := hr3.lt; omega, H3.out.its, by rw [HOK.out.2]; exact HDZ.out, HZL.out, ?_, hcc⟩
            refine ⟨(World.cell?_of_block (a := ⟨g, 0, none⟩) (hcc.block g HG.out.gLt hne)).trans HG.out.c0, (World.cell?_of_block (a := ⟨g, 1, none⟩) (hcc.block g HG.out.gLt hne)).trans HG.out.c1, (World.cell?_of_block (a := ⟨g, 2, none⟩) (hcc.block g HG.out.gLt hne)).trans HG.out.c2,
              (World.cell?_of_block (a := ⟨g, 3, none⟩) (hcc.block g HG.out.gLt hne)).trans HG.out.c3, ?_, HG.out.fit.app, HG.out.len.app, ?_, ?_⟩
            · obtain ⟨M9, hM9⟩ := H3.out.map
              rw [mix_all HKD3.out] at hM9
              rw [HOK.out.2]
              exact ⟨M9, hM9.mono (by omega) (fun _ _ e => e)⟩
            · rintro b (hb | hb)
              · have := HG.out.low b hb; have := hcc.size; omega
              · have := hr3.lt; omega
            · rintro (hb | hb)
              · exact HG.out.nob hb
              · omega
end Go.Proofs.YtmfbblcipakaiaaGreatDoor
