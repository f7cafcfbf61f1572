/- The changes of groups in memory: wide numbers in a block; a map of names to pointers. No walk here. -/
import Derived.Test.YtmfbblcipakaiaaGreatDoorGrpM
import Derived.Test.YtmfbblcipakaiaaGreatDoorNorm
import Derived.Test.YtmfbblcipakaiaaGreatDoorWide2
/-! ### The changes of groups in memory: wide numbers in a block; a map of names to pointers. No walk here. -/
namespace Go.Proofs.YtmfbblcipakaiaaGreatDoor
open Go.RowKit

def wideVals (s : Int) : List Value := [.int .u64 (wA s), .int .u64 (wB s), .int .u64 (wC s)]
def wideL (ns : List Int) : List Value := ns.flatMap wideVals
def wideA (ns : List Int) : Array Value := (wideL ns).toArray
theorem wideL_length (ns : List Int) : (wideL ns).length = ns.length * 3 := by
  induction ns with
  | nil => rfl
  | cons n ns ih => simp [wideL, wideVals] at *; omega
theorem wideL_get (ns : List Int) (i k : Nat) (hk : k < 3) (hi : i < ns.length) : (wideL ns)[i * 3 + k]? = (wideVals ns[i])[k]? := by
  induction ns generalizing i with
  | nil => simp at hi
  | cons n ns ih =>
    have hc : (wideVals n).length = 3 := rfl
    cases i with
    | zero => simp [wideL, List.flatMap_cons, List.getElem?_append_left, hc, hk]
    | succ i =>
      have h := ih i (by simpa using hi)
      simp only [wideL, List.flatMap_cons] at *
      rw [List.getElem?_append_right (by omega)]
      simp only [List.getElem_cons_succ]
      rw [← h]
      congr 1
      omega
theorem wideA_size (ns : List Int) : (wideA ns).size = ns.length * 3 := by simp [wideA, wideL_length]
theorem wideA_get (ns : List Int) (i k : Nat) (hk : k < 3) (hi : i < ns.length) : (wideA ns)[i * 3 + k]? = (wideVals ns[i])[k]? := by
  rw [← wideL_get ns i k hk hi]; simp [wideA]
/-- a number is written over -/
theorem wideA_set (ns : List Int) (i : Nat) (hi : i < ns.length) (t : Int) :
    (((wideA ns).setIfInBounds (i * 3) (.int .u64 (wA t))).setIfInBounds (i * 3 + 1) (.int .u64 (wB t))).setIfInBounds (i * 3 + 2) (.int .u64 (wC t)) = wideA (ns.set i t) := by
  apply Array.ext_getElem?
  intro j
  simp only [Array.getElem?_setIfInBounds, Array.size_setIfInBounds, wideA_size]
  rcases Nat.lt_or_ge j (ns.length * 3) with hj | hj
  · have h3 : j % 3 < 3 := Nat.mod_lt _ (by omega)
    have hd : j / 3 < ns.length := by omega
    have e : j = j / 3 * 3 + j % 3 := by omega
    by_cases hij : j / 3 = i
    · have g : (wideA (ns.set i t))[j]? = (wideVals t)[j % 3]? := by
        rw [e, wideA_get _ _ _ h3 (by simpa using hd)]
        have : (ns.set i t)[j / 3]'(by simpa using hd) = t := by simp [hij]
        rw [this]
        congr 1
        omega
      rw [g]
      have : j % 3 = 0 ∨ j % 3 = 1 ∨ j % 3 = 2 := by omega
      rcases this with h | h | h
      · rw [if_neg (by omega), if_neg (by omega), if_pos (by omega), if_pos (by omega), h]; rfl
      · rw [if_neg (by omega), if_pos (by omega), if_pos (by omega), h]; rfl
      · rw [if_pos (by omega), if_pos (by omega), h]; rfl
    · rw [if_neg (by omega), if_neg (by omega), if_neg (by omega)]
      rw [e, wideA_get _ _ _ h3 hd, wideA_get _ _ _ h3 (by simpa using hd)]
      have : (ns.set i t)[j / 3]'(by simpa using hd) = ns[j / 3] := by
        rw [List.getElem_set_ne (by omega)]
      rw [this]
  · rw [if_neg (by omega), if_neg (by omega), if_neg (by omega), Array.getElem?_eq_none (by rw [wideA_size]; omega), Array.getElem?_eq_none (by rw [wideA_size]; simpa using hj)]
theorem wideL_zero (n : Nat) : wideL (List.replicate n 0) = List.replicate (n * 3) (.int .u64 0) := by
  induction n with
  | zero => rfl
  | succ n ih =>
    rw [List.replicate_succ]
    have e : (n + 1) * 3 = n * 3 + 1 + 1 + 1 := by omega
    rw [e, List.replicate_succ, List.replicate_succ, List.replicate_succ, ← ih]
    rfl
theorem wideInfo : (Tryz.prog.info? 84).map (fun i => (i.zero, i.size, i.bytes)) = some (some (.agg #[.int .u64 0, .int .u64 0, .int .u64 0]), 3, 24) := by kernel_rfl
theorem made_wides (n : Nat) : madeCells (Value.agg #[.int .u64 0, .int .u64 0, .int .u64 0]).cells (n * 3) = wideA (List.replicate n 0) := by
  apply Array.ext_getElem?
  intro j
  have e : (Value.agg #[.int .u64 0, .int .u64 0, .int .u64 0]).cells = #[Value.int .u64 0, .int .u64 0, .int .u64 0] := rfl
  unfold wideA
  rw [e, wideL_zero]
  rcases Nat.lt_or_ge j (n * 3) with hj | hj
  · have : j % 3 = 0 ∨ j % 3 = 1 ∨ j % 3 = 2 := by omega
    rcases this with h | h | h <;> simp [madeCells, hj, h]
  · rw [Array.getElem?_eq_none (by simp [madeCells]; omega), Array.getElem?_eq_none (by simpa using hj)]
theorem make_wides (n : Nat) (hn : n ≤ 1048576) (w : World) : (Instr.makeSlice 77 (.int .i64 n) (.int .i64 n)).run Tryz.prog w = .ok (.slice (some ⟨w.heap.size, 0, none⟩) n n) (w.alloc (.cells (wideA (List.replicate n 0)) 84)) := by
  obtain ⟨i, hi, hz0, hz1, hz2⟩ := info_parts wideInfo
  rw [run_makeSlice w 77 84 i _ Tryz.underlying77 hi hz0 .i64 .i64 n n (by omega) (by omega) (by rw [hz1]; omega) (by rw [hz2]; omega) (by omega)]
  have := made_wides n
  rw [hz1]
  simp only [Int.toNat_natCast]
  rw [this]

/-- the block p is a change of the key k; its numbers, wide, are the block nb -/
structure ChgAt (w : World) (lo p nb : Nat) (k : List Cell) (ns : List Int) : Prop where
  head : ∃ kv, w.heap[p]? = some (.cells #[kv, .slice (some ⟨nb, 0, none⟩) ns.length ns.length] 79 (0, 0)) ∧ SlT 65 lo w kv k.length (rowVals k)
  nums : w.heap[nb]? = some (.cells (wideA ns) 84 (0, 0))
  lop : lo ≤ p
  lon : lo ≤ nb
/-- the map bc of names to changes: of the keys ks, whose numbers are F -/
structure CMap (w : World) (bc lo n : Nat) (F : List Cell → List Int) (ks : List (List Cell)) (p nb : List Cell → Nat) (M : ByteArray → Option Value) : Prop where
  map : MapIs Tryz.prog 9 w bc n M
  val : ∀ k, M (nameOf k) = if k ∈ ks then some (.pointer (some ⟨p k, 0, none⟩)) else none
  names : ∀ s v, M s = some v → ∃ k ∈ ks, s = nameOf k
  at_ : ∀ k ∈ ks, ChgAt w lo (p k) (nb k) k (F k)
  apart : ∀ k ∈ ks, ∀ j ∈ ks, nb k = nb j → k = j
  nodup : ks.Nodup
section
variable {w w' : World} {bc lo n p0 n0 : Nat} {F : List Cell → List Int} {ks : List (List Cell)} {p nb : List Cell → Nat} {M : ByteArray → Option Value} {k : List Cell} {ns : List Int}
theorem ChgAt.chg {X : Nat → Prop} (h : ChgAt w lo p0 n0 k ns) (c : Chg X w w') (hd : ∀ (b : Nat) cs T f, lo ≤ b → w.heap[b]? = some (.cells cs T f) → ¬ X b) : ChgAt w' lo p0 n0 k ns := by
  obtain ⟨⟨kv, h1, h2⟩, h3, h4, h5⟩ := h
  exact ⟨⟨kv, (c.block _ (block_lt h1) (hd _ _ _ _ h4 h1)).trans h1, h2.chg c (fun b cs f hl hh => hd b cs _ f hl hh)⟩, (c.block _ (block_lt h3) (hd _ _ _ _ h5 h3)).trans h3, h4, h5⟩
theorem ChgAt.old (h : ChgAt w lo p0 n0 k ns) (o : Old w w') : ChgAt w' lo p0 n0 k ns := h.chg (X := fun _ => False) (Chg.of_old o) (fun _ _ _ _ _ _ e => e)
/-- one number's block is written -/
theorem ChgAt.wrote {b : Nat} {cs : Array Value} (h : ChgAt w lo p0 n0 k ns) (c : Chg (fun i => i = b) w w') (hb : w.heap[b]? = some (.cells cs 84 (0, 0))) (hn : n0 ≠ b) : ChgAt w' lo p0 n0 k ns := by
  obtain ⟨⟨kv, h1, h2⟩, h3, h4, h5⟩ := h
  refine ⟨⟨kv, (c.block _ (block_lt h1) ?_).trans h1, h2.chg c ?_⟩, (c.block _ (block_lt h3) hn).trans h3, h4, h5⟩
  · rintro rfl
    rw [h1] at hb
    injection hb with hb
    injection hb with _ hT _
    cases hT
  · rintro i cs' f _ hh rfl
    rw [hh] at hb
    injection hb with hb
    injection hb with _ hT _
    cases hT
theorem CMap.chg {X : Nat → Prop} (h : CMap w bc lo n F ks p nb M) (c : Chg X w w') (hb : ¬ X bc) (hd : ∀ (b : Nat) cs T f, lo ≤ b → w.heap[b]? = some (.cells cs T f) → ¬ X b) : CMap w' bc lo n F ks p nb M :=
  ⟨h.map.chg c hb, h.val, h.names, fun k hk => (h.at_ k hk).chg c hd, h.apart, h.nodup⟩
theorem CMap.old (h : CMap w bc lo n F ks p nb M) (o : Old w w') : CMap w' bc lo n F ks p nb M := h.chg (X := fun _ => False) (Chg.of_old o) (fun e => e) (fun _ _ _ _ _ _ e => e)
theorem CMap.mono (h : CMap w bc lo n F ks p nb M) {n' : Nat} (hn : n ≤ n') : CMap w bc lo n' F ks p nb M := ⟨h.map.mono hn, h.val, h.names, h.at_, h.apart, h.nodup⟩
theorem CMap.made (w : World) (lo : Nat) (F : List Cell → List Int) (p nb : List Cell → Nat) : CMap (w.alloc (.map #[] 0)) w.heap.size lo 0 F [] p nb (fun _ => none) :=
  ⟨MapIs.made w _ _, fun _ => rfl, fun _ _ h => (by cases h), fun _ h => (by cases h), fun _ h => (by cases h), List.nodup_nil⟩
/-- a number of a key is written over -/
theorem CMap.wrote (h : CMap w bc lo n F ks p nb M) (hk : k ∈ ks) (c : Chg (fun i => i = nb k) w w') (hb : w'.heap[nb k]? = some (.cells (wideA ns) 84 (0, 0))) (hl : ns.length = (F k).length) {F' : List Cell → List Int}
    (hF : F' k = ns) (hF2 : ∀ j, j ≠ k → F' j = F j) : CMap w' bc lo n F' ks p nb M := by
  have hA := h.at_ k hk
  refine ⟨h.map.chg c ?_, h.val, h.names, fun j hj => ?_, h.apart, h.nodup⟩
  · intro e
    obtain ⟨es, cl, hm⟩ := h.map.isMap
    rw [e, hA.nums] at hm
    cases hm
  · by_cases e : j = k
    · subst e
      rw [hF]
      obtain ⟨⟨kv, h1, h2⟩, h3, h4, h5⟩ := hA
      refine ⟨⟨kv, ?_, h2.chg c ?_⟩, hb, h4, h5⟩
      · rw [hl]
        refine (c.block _ (block_lt h1) ?_).trans h1
        intro e
        rw [e, h3] at h1
        injection h1 with h1
        injection h1 with _ hT _
        cases hT
      · rintro i cs' f _ hh rfl
        rw [h3] at hh
        injection hh with hh
        injection hh with _ hT _
        cases hT
    · rw [hF2 j e]
      exact (h.at_ j hj).wrote c hA.nums (fun hh => e (h.apart j hj k hk hh))
/-- a change is put in -/
theorem CMap.put {W W' : World} (h : CMap w bc lo n F ks p nb M) (ho : Old w W) (hx : k ∉ ks) (hm : MapIs Tryz.prog 9 W' bc (n + 1) (upd M (nameOf k) (some (.pointer (some ⟨p0, 0, none⟩))))) (hg : W.grownBy W' (some bc))
    (hA : ChgAt W lo p0 n0 k (F k)) (hn0 : w.heap.size ≤ n0) :
    CMap W' bc lo (n + 1) F (ks ++ [k]) (fun j => if j = k then p0 else p j) (fun j => if j = k then n0 else nb j) (upd M (nameOf k) (some (.pointer (some ⟨p0, 0, none⟩)))) := by
  obtain ⟨es, cl, hbm⟩ := h.map.isMap
  have hd : ∀ (b : Nat) cs T f, lo ≤ b → W.heap[b]? = some (.cells cs T f) → ¬ b = bc := by
    rintro b cs T f _ hh rfl
    rw [ho.heap hbm] at hh
    cases hh
  have hnb : ∀ j ∈ ks, nb j < w.heap.size := fun j hj => block_lt (h.at_ j hj).nums
  refine ⟨hm, fun j => ?_, fun s v hv => ?_, fun j hj => ?_, fun j hj i hi e => ?_, ?_⟩
  · unfold upd
    by_cases e : j = k
    · subst e; simp
    · rw [if_neg (fun hh => e (nameOf_inj hh)), h.val]
      by_cases hj : j ∈ ks
      · rw [if_pos hj, if_pos (by simp [hj]), if_neg e]
      · rw [if_neg hj, if_neg (by simp [hj, e])]
  · unfold upd at hv
    by_cases e : s = nameOf k
    · exact ⟨k, by simp, e⟩
    · rw [if_neg e] at hv
      obtain ⟨j, hj, hs⟩ := h.names s v hv
      exact ⟨j, by simp [hj], hs⟩
  · rcases List.mem_append.1 hj with hj1 | hj1
    · have : j ≠ k := fun e => hx (e ▸ hj1)
      rw [if_neg this, if_neg this]
      exact ((h.at_ j hj1).old ho).chg (Chg.of_grown hg) hd
    · have : j = k := by simpa using hj1
      subst this
      rw [if_pos rfl, if_pos rfl]
      exact hA.chg (Chg.of_grown hg) hd
  · have key : ∀ a, a ∈ ks ++ [k] → a = k ∨ (a ≠ k ∧ a ∈ ks) := fun a ha => by
      by_cases e : a = k
      · exact .inl e
      · exact .inr ⟨e, by simpa [e] using ha⟩
    rcases key j hj with rfl | ⟨h1, h2⟩ <;> rcases key i hi with rfl | ⟨h3, h4⟩
    · rfl
    · rw [if_pos rfl, if_neg h3] at e
      have := hnb i h4
      omega
    · rw [if_pos rfl, if_neg h1] at e
      have := hnb j h2
      omega
    · rw [if_neg h1, if_neg h3] at e
      exact h.apart j h2 i h4 e
  · rw [List.nodup_append]
    exact ⟨h.nodup, by simp, fun a ha b hb => by
      have : b = k := by simpa using hb
      subst this
      rintro rfl
      exact hx ha⟩
end
end Go.Proofs.YtmfbblcipakaiaaGreatDoor

/-! ### The walk of changes' inner function: the change of a key. -/
namespace Go.Proofs.YtmfbblcipakaiaaGreatDoor
open Go.RowKit

theorem undStr : Tryz.prog.underlying 9 = some .string := Tryz.underlying9
theorem zero_ptr (w : World) : (zeroValue 76).run Tryz.prog w = .ok (.pointer none) w := by kernel_rfl
theorem zero_state (w : World) : (zeroValue 81).run Tryz.prog w = .ok (.agg #[.slice none 0 0, .slice none 0 0]) w := by kernel_rfl

/-- what changes' inner function leaves -/
def AtPost (w : World) (bc lo n : Nat) (F : List Cell → List Int) (ks : List (List Cell)) (x : List Cell) (e : Ending) (w' : World) : Prop :=
  ∃ (p' nb' : List Cell → Nat) (M' : ByteArray → Option Value), e = .returned (.pointer (some ⟨p' x, 0, none⟩)) ∧ CMap w' bc lo (n + 1) F (if x ∈ ks then ks else ks ++ [x]) p' nb' M' ∧ Chg (fun b => b = bc) w w'
theorem wrap_one {S : Nat} (hS : S ≤ 64) : IntKind.i64.wrap (1 + (S : Int)) = ((S + 1 : Nat) : Int) := by
  exact (IntWalk.i64_in _ (by omega)).trans (by omega)
theorem make_nums (S : Nat) (hS : S ≤ 64) (w : World) : (Instr.makeSlice 77 (.int .i64 (IntKind.i64.wrap (1 + (S : Int)))) (.int .i64 (IntKind.i64.wrap (1 + (S : Int))))).run Tryz.prog w = .ok (.slice (some ⟨w.heap.size, 0, none⟩) (S + 1) (S + 1)) (w.alloc (.cells (wideA (List.replicate (S + 1) 0)) 84)) := by
  rw [wrap_one hS]
  exact make_wides (S + 1) (by omega) w
theorem heap_alloc_at {w : World} (o : Obj) : (w.alloc o).heap[w.heap.size]? = some o := Array.getElem?_push_size

theorem field_nums (A0 A : Option Addr) (n0 c0 n c : Nat) (w : World) : (Instr.field 81 (.agg #[.slice A0 n0 c0, .slice A n c]) 1).run Tryz.prog w = .ok (.slice A n c) w := by kernel_rfl
theorem pad_set {ns : List Int} {j k : Nat} (h : j < ns.length) (h2 : ns.length ≤ k) : (ns.take j ++ List.replicate (k - j) 0).set j ns[j] = ns.take (j + 1) ++ List.replicate (k - (j + 1)) 0 := by
  have e : k - j = (k - (j + 1)) + 1 := by omega
  rw [take_snoc h, e, List.replicate_succ, List.set_append_right _ _ (by simp; omega)]
  have : j - (ns.take j).length = 0 := by simp; omega
  rw [this, List.set_cons_zero, List.append_assoc]
  rfl
theorem pad_len {ns : List Int} {j k : Nat} (h : j ≤ ns.length) (h2 : ns.length ≤ k) : (ns.take j ++ List.replicate (k - j) 0).length = k := by simp; omega
/-- three cells are written: a wide number -/
theorem set_wide {w : World} {b : Nat} {ns : List Int} (h : w.heap[b]? = some (.cells (wideA ns) 84 (0, 0))) {i : Nat} (hi : i < ns.length) (t : Int) :
    (((w.setCell ⟨b, i * 3, none⟩ (.int .u64 (wA t))).setCell ⟨b, i * 3 + 1, none⟩ (.int .u64 (wB t))).setCell ⟨b, i * 3 + 2, none⟩ (.int .u64 (wC t))).heap[b]? = some (.cells (wideA (ns.set i t)) 84 (0, 0)) := by
  rw [← wideA_set ns i hi t]
  simp [World.setCell, Array.getElem?_modify, h]
theorem chg_wide (w : World) (b i : Nat) (u0 u1 u2 : Value) : Chg (fun n => n = b) w (((w.setCell ⟨b, i, none⟩ u0).setCell ⟨b, i + 1, none⟩ u1).setCell ⟨b, i + 2, none⟩ u2) :=
  (((Chg.refl (fun n => n = b) w).set (p := b) rfl i u0).set (p := b) rfl (i + 1) u1).set (p := b) rfl (i + 2) u2
theorem wide_cells {w : World} {b : Nat} {ns : List Int} (h : w.heap[b]? = some (.cells (wideA ns) 84 (0, 0))) {i : Nat} (hi : i < ns.length) :
    w.cell? ⟨b, i * 3, none⟩ = some (.int .u64 (wA ns[i])) ∧ w.cell? ⟨b, i * 3 + 1, none⟩ = some (.int .u64 (wB ns[i])) ∧ w.cell? ⟨b, i * 3 + 2, none⟩ = some (.int .u64 (wC ns[i])) :=
  ⟨(cell_of_heap h).trans (wideA_get ns i 0 (by omega) hi), (cell_of_heap h).trans (wideA_get ns i 1 (by omega) hi), (cell_of_heap h).trans (wideA_get ns i 2 (by omega) hi)⟩

set_option maxRecDepth 100000 in
set_option maxHeartbeats 2000000 in
theorem at_run (q5 q2 bc g bm lo K S n m : Nat) (f : Gf) (F : List Cell → List Int) (ks : List (List Cell)) (p nb : List Cell → Nat) (M MG : ByteArray → Option Value) (B : Nat → Prop) (v : Value) (x : List Cell) (w : World)
    (h5 : w.cell? ⟨q5, 0, none⟩ = some (.map (some bc))) (h2 : w.cell? ⟨q2, 0, none⟩ = some (.pointer (some ⟨g, 0, none⟩)))
    (g2 : w.cell? ⟨g, 2, none⟩ = some (.int .i64 S)) (g3 : w.cell? ⟨g, 3, none⟩ = some (.map (some bm))) (hM : GMap w bm m K S f (leftB S f) B MG) (hS : S ≤ 64) (hf : GFit S f)
    (hC : CMap w bc lo n F ks p nb M) (hn : n ≤ 100000) (hv : RowIs w v x) (hk : KeyOk x) (hp : PowTab w) (hFx : x ∉ ks → F x = numsOf S f x) (hlo : lo ≤ w.heap.size) :
    Calls Tryz.prog 64 #[v, .pointer (some ⟨q5, 0, none⟩), .pointer (some ⟨q2, 0, none⟩)] w (AtPost w bc lo n F ks x) := by
  have HN := hide (name_run v x w hv hk hp)
  have HV := hide hv
  obtain ⟨Av, cv, rfl, -, -, -⟩ := hv
  obtain ⟨s, hs⟩ : ∃ s, Hid (nameOf x = s) := ⟨_, hide rfl⟩
  have hsz := hk.size
  have hxl := hk.len
  rw [hs.out] at HN hsz
  have H5 := hide h5
  have H2 := hide h2
  have HC := hide hC
  clear h5 h2 hk hp
  by_cases hx : x ∈ ks
  · have hMs : M s = some (.pointer (some ⟨p x, 0, none⟩)) := by rw [← hs.out, hC.val, if_pos hx]
    have HL := hide (show ∀ w', Old w w' → (Instr.lookup 74 (.map (some bc)) (.string s) false).run Tryz.prog w' = .ok (.pointer (some ⟨p x, 0, none⟩)) w' from fun w' ho => by
      have := (hC.map.old ho).look undStr Tryz.underlying74 (zero_ptr w') hsz
      rw [hMs] at this
      exact this)
    clear hC hM g2 g3 hMs
    go_enter Tryz.func64, Tryz.ntmps64
    go_wp2_with fail
    refine HN.out.mono ?_
    rintro e w1 ⟨rfl, h1⟩
    have y5 := h1.cell H5.out
    have hl := HL.out w1 h1
    have HO := hide h1
    clear h1
    go_wp2_with fail
    go_ret
    exact ⟨p, nb, M, rfl, by rw [if_pos hx]; exact (HC.out.old HO.out).mono (by omega), Chg.of_old HO.out⟩
  · have hMs : M s = none := by rw [← hs.out, hC.val, if_neg hx]
    have HL := hide (show ∀ w', Old w w' → (Instr.lookup 74 (.map (some bc)) (.string s) false).run Tryz.prog w' = .ok (.pointer none) w' from fun w' ho => by
      have := (hC.map.old ho).look undStr Tryz.underlying74 (zero_ptr w') hsz
      rw [hMs] at this
      exact this)
    have G2 := hide g2
    have G3 := hide g3
    have mk := make_nums S hS
    clear hC g2 g3 hMs
    go_enter Tryz.func64, Tryz.ntmps64
    go_wp2_with fail
    refine HN.out.mono ?_
    rintro e w1 ⟨rfl, h1⟩
    have y5 := h1.cell H5.out
    have hl := HL.out w1 h1
    have HO := hide h1
    have y2 : ∀ w', Old w1 w' → w'.cell? ⟨q2, 0, none⟩ = some (.pointer (some ⟨g, 0, none⟩)) := fun w' h => (HO.out.trans h).cell H2.out
    have z2 : ∀ w', Old w1 w' → w'.cell? ⟨g, 2, none⟩ = some (.int .i64 S) := fun w' h => (HO.out.trans h).cell G2.out
    have HR := hide (show ∀ w', Old w1 w' → Calls Tryz.prog 55 #[.slice Av x.length cv] w' fun e w2 => ∃ A cp, e = .returned (.slice A x.length cp) ∧ SlT 65 lo w2 (.slice A x.length cp) x.length (rowVals x) ∧ Old w' w2 from fun w' h =>
      (row_Copy _ _ _ (HV.out.old (HO.out.trans h)) (by omega)).mono fun _ _ hn => hn.form (Nat.le_trans hlo (HO.out.trans h).size))
    clear h1
    go_wp2_with fail
    go_region_held3 (fun w' => Old w1 w')
      (first | (exact Old.drew (Old.refl _)) | (exact Old.alloc (by assumption) _) | (exact Old.trans (by assumption) (by assumption)))
      (first
        | (go_at_call 55; refine (HR.out _ (by assumption)).mono ?_; rintro e w2 ⟨A1, c1, rfl, hr1, hb1⟩))
    all_goals
      first
      | (have hN : w2.heap[w1.heap.size]? = some (.cells (wideA (List.replicate (S + 1) 0)) 84 (0, 0)) := hb1.heap (heap_alloc_at (w := w1.drew) _)
         have hOW : Old w1 w2 := Old.trans (Old.alloc (Old.drew (Old.refl w1)) _) hb1
         have hnb : w1.heap.size ≤ w1.heap.size := Nat.le_refl _
         clear hb1
         generalize hnb0 : w1.heap.size = nb0 at hN hnb ⊢
         generalize w2 = W at *)
      | (have hN : (w2.alloc (.cells (wideA (List.replicate (S + 1) 0)) 84)).heap[w2.heap.size]? = some (.cells (wideA (List.replicate (S + 1) 0)) 84 (0, 0)) := heap_alloc_at _
         have hOW : Old w1 (w2.alloc (.cells (wideA (List.replicate (S + 1) 0)) 84)) := Old.alloc (Old.trans (Old.drew (Old.refl w1)) hb1) _
         have hnb : w1.heap.size ≤ w2.heap.size := hb1.size
         have hr2 := SlT.old hr1 (Old.alloc (Old.refl w2) (.cells (wideA (List.replicate (S + 1) 0)) 84))
         have hsz1 : w2.heap.size + 1 = (w2.alloc (.cells (wideA (List.replicate (S + 1) 0)) 84)).heap.size := by simp
         rw [hsz1]
         clear hb1 hr1
         have hr1 := hr2
         clear hr2 hsz1
         generalize (w2.alloc (.cells (wideA (List.replicate (S + 1) 0)) 84)) = W at *
         generalize w2.heap.size = nb0 at *)
    all_goals
      have HB := hide (show (W.alloc (.cells #[.slice A1 x.length c1, .slice (some ⟨nb0, 0, none⟩) (S + 1) (S + 1)] 79)).heap[W.heap.size]? = some (.cells #[.slice A1 x.length c1, .slice (some ⟨nb0, 0, none⟩) (S + 1) (S + 1)] 79 (0, 0)) from heap_alloc_at _)
      have HN2 := hide (show (W.alloc (.cells #[.slice A1 x.length c1, .slice (some ⟨nb0, 0, none⟩) (S + 1) (S + 1)] 79)).heap[nb0]? = _ from (Old.alloc (Old.refl W) _).heap hN)
      have HR1 := hide (hr1.old (Old.alloc (Old.refl W) (.cells #[.slice A1 x.length c1, .slice (some ⟨nb0, 0, none⟩) (S + 1) (S + 1)] 79)))
      have HOW := hide (Old.alloc hOW (.cells #[.slice A1 x.length c1, .slice (some ⟨nb0, 0, none⟩) (S + 1) (S + 1)] 79))
      have hnW : nb0 < W.heap.size := block_lt hN
      clear hN hr1 hOW hl y5 y2 z2 HR HL mk
      generalize (W.alloc (.cells #[.slice A1 x.length c1, .slice (some ⟨nb0, 0, none⟩) (S + 1) (S + 1)] 79)) = W2 at *
      have hrun := ((hM.map.old HO.out).old HOW.out).look undStr Tryz.underlying54 (zero_state W2) (s := nameOf x) (by rw [hs.out]; exact hsz)
      obtain ⟨gv, hgv⟩ : ∃ gv, (MG (nameOf x)).getD (.agg #[.slice none 0 0, .slice none 0 0]) = gv := ⟨_, rfl⟩
      rw [hgv, hs.out] at hrun
      have y2 := HOW.out.cell (HO.out.cell H2.out)
      have y3 := HOW.out.cell (HO.out.cell G3.out)
      obtain ⟨A0, n0, c0, b, ns, rfl, hb, hns, hpad⟩ : ∃ (A0 : Option Addr) (n0 c0 : Nat) (b : Value) (ns : List Int), gv = .agg #[.slice A0 n0 c0, b] ∧ Sl w b ns.length (numVals ns) ∧ ns.length ≤ S + 1 ∧ F x = ns ++ List.replicate (S + 1 - ns.length) 0 := by
        rw [hFx hx]
        cases hL : leftB S f x
        · rw [hM.none_ x hL] at hgv
          refine ⟨none, 0, 0, _, [], hgv.symm, Sl.nil_ _, by simp, ?_⟩
          unfold numsOf
          apply List.ext_getElem
          · simp
          · intro i h1 h2
            simp only [List.getElem_map, List.getElem_range, List.nil_append, List.getElem_replicate]
            exact leftB_false.1 hL i (by simp at h1; omega)
        · obtain ⟨v, hv1, a, b, rfl, ha, hb⟩ := hM.some_ x hL
          rw [hv1] at hgv
          have e : (numsOf S f x).length = S + 1 := numsOf_length S f x
          obtain ⟨A0, c0, rfl⟩ := ha.form
          exact ⟨A0, _, c0, b, _, hgv.symm, hb.sl, by omega, by simp [e]⟩
      have hfit : ∀ n ∈ ns, fit n := by
        intro n hn
        have : n ∈ F x := by rw [hpad]; simp [hn]
        rw [hFx hx] at this
        obtain ⟨i, hi, rfl⟩ := List.mem_map.1 this
        exact hf x i (by have := List.mem_range.1 hi; omega)
      obtain ⟨A, ca, rfl, hla, hma, hc⟩ := hb
      unfold maxLen at hma
      have HCB := hide hc
      have HPAD := hide hpad
      have HFIT := hide hfit
      have hfd := field_nums A0 A n0 c0 ns.length ca W2
      clear hc hM hpad hfit hgv
      go_wp2_with fail
      have HW := hide (show Hid (∀ wr, Chg (fun b => b = nb0) W2 wr → Old w1 wr) from fun wr hc => by
        refine Chg.old (X := fun b => b = nb0) ((Chg.of_old HOW.out).trans hc (fun _ _ e => e) (fun _ _ e => e)) ?_
        intro n hn e
        omega)
      obtain ⟨N, hNN⟩ : ∃ N, Hid (ns.length = N) := ⟨_, hide rfl⟩
      rw [hNN.out] at hla hns ⊢
      go_loopw [33] (fun i wr => ∃ j : Nat, i = .int .i64 j ∧ j ≤ N ∧ Hid (wr.heap[nb0]? = some (.cells (wideA (ns.take j ++ List.replicate (S + 1 - j) 0)) 84 (0, 0))) ∧ Hid (Chg (fun b => b = nb0) W2 wr)) (fun i _ => N - (intOf i).toNat)
      case atStart => exact ⟨0, rfl, by omega, by simpa using HN2, hide (Chg.refl _ _)⟩
      case round =>
        obtain ⟨j, rfl, hj, HD, HG⟩ := hrel
        by_cases hlt : j < N
        · have hjn : j < ns.length := by rw [hNN.out]; exact hlt
          have hwr := HW.out wr HG.out
          have g1 := numVals_get hjn
          obtain ⟨b1, o1, rfl, hc1⟩ := HCB.out (by intro e; rw [e] at g1; simp at g1)
          have y1 : wr.cell? ⟨b1, o1 + j, none⟩ = some (.int .i64 ns[j]) := (HO.out.trans hwr).cell (hc1 _ _ g1)
          have HXF := hide (HFIT.out ns[j] (List.getElem_mem hjn))
          have HPS := hide (pad_set (ns := ns) (j := j) (k := S + 1) hjn (by rw [hNN.out]; exact hns))
          have HPL := hide (pad_len (ns := ns) (j := j) (k := S + 1) (by omega) (by rw [hNN.out]; exact hns))
          obtain ⟨xn, hxn⟩ : ∃ xn, Hid (ns[j] = xn) := ⟨_, hide rfl⟩
          rw [hxn.out] at y1 HXF HPS
          have bx : ∀ p : Later wr, p.world.cell? ⟨W.heap.size, 1, none⟩ = some (.slice (some ⟨nb0, 0, none⟩) (S + 1) (S + 1)) := fun p => p.old.cell ((cell_of_heap ((HG.out.block _ (block_lt HB.out) (show ¬ W.heap.size = nb0 by omega)).trans HB.out)).trans rfl)
          have CO := hide (fun p : Later wr => (wide_Of xn p.world HXF.out).mono fun e w' h => (⟨h.1, h.2.old⟩ : e = .returned (wide xn) ∧ Old p.world w'))
          have hjS : j < S + 1 := by omega
          clear g1 hc1
          go_wp2_with fail
          refine region_later_tail 8 (by kernel_rfl) (by kernel_rfl) ?_
          simp only [List.take_succ_cons, List.take_zero, List.drop_succ_cons, List.drop_zero]
          repeat (go_big_quiet_step ((go_at_call 54; exact Later.call (CO.out _))))
          refine wpQuiet_nil ?_
          rintro wz ⟨⟨_, hwz⟩, rfl⟩
          clear bx CO
          have HZ := hide (hwz.heap HD.out)
          obtain ⟨d0, d1, d2⟩ := wide_cells HZ.out (i := j) (by rw [HPL.out]; omega)
          have f0 : ∀ i, wz.frozen? ⟨nb0, i, none⟩ = false := fun i => free_of_heap HZ.out
          go_wp2_with fail
          go_roundw
          case rel =>
            refine ⟨j + 1, by go_num, by omega, hide ?_, hide ((HG.out.step hwz).trans (chg_wide _ _ _ _ _ _) (fun _ _ e => e) (fun _ _ e => e))⟩
            have := set_wide HZ.out (i := j) (by rw [HPL.out]; omega) xn
            rw [HPS.out] at this
            exact this
          case measure => simp [intOf]; omega
        · have hjN : j = N := by omega
          have hwr := HW.out wr HG.out
          have hO := HO.out.trans hwr
          have hall : ns.take j = ns := List.take_of_length_le (by rw [hNN.out]; omega)
          have hd := HD.out
          rw [hall, hjN, ← hNN.out, ← HPAD.out] at hd
          have hFl : (F x).length = S + 1 := by rw [hFx hx, numsOf_length]
          have hA : ChgAt wr lo W.heap.size nb0 x (F x) := by
            refine ⟨⟨_, ?_, HR1.out.chg HG.out ?_⟩, hd, ?_, ?_⟩
            · rw [hFl]
              exact (HG.out.block _ (block_lt HB.out) (show ¬ W.heap.size = nb0 by omega)).trans HB.out
            · rintro b cs f _ hh rfl
              have := HN2.out
              rw [hh] at this
              injection this with this
              injection this with _ hT _
              cases hT
            · have := HO.out.size; omega
            · have := HO.out.size; omega
          obtain ⟨w6, hput, hm6, hg6⟩ := (HC.out.map.old hO).put undStr Tryz.underlying74 (by unfold maxLen; omega) (s := nameOf x) (by rw [hs.out]; exact hsz) (.pointer (some ⟨W.heap.size, 0, none⟩))
          have hC6 := HC.out.put hO hx hm6 hg6 hA (by have := HO.out.size; omega)
          have hl6 := hm6.look undStr Tryz.underlying74 (zero_ptr w6) (s := nameOf x) (by rw [hs.out]; exact hsz)
          have hu : (upd M (nameOf x) (some (.pointer (some ⟨W.heap.size, 0, none⟩))) (nameOf x)).getD (.pointer none) = .pointer (some ⟨W.heap.size, 0, none⟩) := by simp [upd]
          rw [hu, hs.out] at hl6
          rw [hs.out] at hput
          have y5 := hO.cell H5.out
          have hq5 : q5 ≠ bc := by
            rintro rfl
            obtain ⟨es, cl, hm⟩ := HC.out.map.isMap
            have := H5.out
            simp [World.cell?, hm] at this
          have y6 : w6.cell? ⟨q5, 0, none⟩ = some (.map (some bc)) := (World.cell?_of_block (a := ⟨q5, 0, none⟩) (hg6.block q5 (World.block_lt_of_cell? wr _ y5) (fun e => hq5 (by injection e)))).trans y5
          have HC6 := hide hC6
          have HGA := hide ((Chg.of_old (X := fun b => b = bc) hO).trans (Chg.of_grown hg6) (fun _ _ e => e) (fun _ _ e => e))
          clear hm6 hg6 hC6 hA hd hall hu hO hwr
          go_wp2_with fail
          go_ret
          exact ⟨fun j => if j = x then W.heap.size else p j, fun j => if j = x then nb0 else nb j, _, by simp, by rw [if_neg hx]; exact HC6.out, HGA.out⟩
end Go.Proofs.YtmfbblcipakaiaaGreatDoor

/-! ### The walk of changes: what entries make of groups. -/
namespace Go.Proofs.YtmfbblcipakaiaaGreatDoor
open Go.RowKit

structure EntFine (e : Ent) : Prop where
  key : KeyOk e.key
  w : fit e.w
  vals : ∀ c ∈ e.vals, fit c.n
theorem heap_ne {w : World} {a b : Nat} {cs cs' : Array Value} {T T' : TypeId} {f f' : Nat × Nat} (h1 : w.heap[a]? = some (.cells cs T f)) (h2 : w.heap[b]? = some (.cells cs' T' f')) (hT : T ≠ T') : a ≠ b := by
  rintro rfl
  rw [h1] at h2
  injection h2 with h2
  injection h2 with _ h _
  exact hT h
theorem map_ne {w : World} {a b : Nat} {cs : Array Value} {T : TypeId} {f : Nat × Nat} (h1 : w.heap[a]? = some (.cells cs T f)) {P : Program} {k n : Nat} {m : ByteArray → Option Value} (h2 : MapIs P k w b n m) : a ≠ b := by
  rintro rfl
  obtain ⟨es, c, hh⟩ := h2.isMap
  rw [h1] at hh
  cases hh

/-- the state while an entry is put in: its parts up to the j-th -/
def pF (f : Gf) (e : Ent) (j : Nat) : Gf := fun z i => f z i + if z = e.key then (if i ≤ j then part e i else 0) else 0
theorem pF_other {f : Gf} {e : Ent} {j S : Nat} {z : List Cell} (h : z ≠ e.key) : numsOf S (pF f e j) z = numsOf S f z := by
  unfold numsOf pF
  simp [h]
theorem pF_end {f : Gf} {l : List Ent} {e : Ent} {S : Nat} (z : List Cell) : numsOf S (pF (gAdd f l) e S) z = numsOf S (gAdd f (l ++ [e])) z := by
  unfold numsOf
  apply List.map_congr_left
  intro i hi
  have := List.mem_range.1 hi
  simp only [pF, gAdd, tot_snoc]
  by_cases h : z = e.key
  · rw [if_pos h, if_pos (by omega), if_pos h.symm]; omega
  · rw [if_neg h, if_neg (Ne.symm h)]; omega
theorem nums_at {S i : Nat} (f : Gf) (k : List Cell) (h : i < (numsOf S f k).length) : (numsOf S f k)[i] = f k i := by
  simp [numsOf]
theorem pF_zero {f : Gf} {e : Ent} {S : Nat} : numsOf S (pF f e 0) e.key = (numsOf S f e.key).set 0 (f e.key 0 + e.w) := by
  apply List.ext_getElem
  · simp [numsOf_length]
  · intro i h1 h2
    rw [nums_at, List.getElem_set, nums_at]
    unfold pF
    by_cases h : i = 0
    · subst h; simp [part]
    · rw [if_neg (Ne.symm h), if_pos rfl, if_neg (by omega)]; omega
theorem pF_next {f : Gf} {e : Ent} {S j : Nat} : numsOf S (pF f e (j + 1)) e.key = (numsOf S (pF f e j) e.key).set (j + 1) (pF f e j e.key (j + 1) + part e (j + 1)) := by
  apply List.ext_getElem
  · simp [numsOf_length]
  · intro i h1 h2
    rw [nums_at, List.getElem_set, nums_at]
    unfold pF
    by_cases h : i = j + 1
    · subst h; simp [show ¬ (j + 1 ≤ j) by omega]
    · rw [if_neg (Ne.symm h), if_pos rfl, if_pos rfl]
      by_cases hi : i ≤ j
      · rw [if_pos (by omega), if_pos hi]
      · rw [if_neg (by omega), if_neg hi]
theorem pF_skip {f : Gf} {e : Ent} {S j : Nat} (h : part e (j + 1) = 0) (z : List Cell) : numsOf S (pF f e (j + 1)) z = numsOf S (pF f e j) z := by
  unfold numsOf
  apply List.map_congr_left
  intro i _
  unfold pF
  by_cases hz : z = e.key
  · rw [if_pos hz, if_pos hz]
    by_cases hi : i = j + 1
    · subst hi; rw [if_pos (Nat.le_refl _), if_neg (by omega), h]
    · by_cases hi2 : i ≤ j
      · rw [if_pos (by omega), if_pos hi2]
      · rw [if_neg (by omega), if_neg hi2]
  · rw [if_neg hz, if_neg hz]
theorem part_cell {e : Ent} {j : Nat} (h : j < e.vals.length) : part e (j + 1) = if e.vals[j].null then 0 else e.w * e.vals[j].n := by
  simp [part, h]

/-- the two cells that the inner function holds -/
structure ChCells (w : World) (g q2 q5 bc : Nat) : Prop where
  c2 : w.heap[q2]? = some (.cells #[.pointer (some ⟨g, 0, none⟩)] 24 (0, 0))
  c5 : w.heap[q5]? = some (.cells #[.map (some bc)] 74 (0, 0))
theorem ChCells.chg {X : Nat → Prop} {w w' : World} {g q2 q5 bc : Nat} (h : ChCells w g q2 q5 bc) (c : Chg X w w') (h2 : ¬ X q2) (h5 : ¬ X q5) : ChCells w' g q2 q5 bc :=
  ⟨(c.block _ (block_lt h.c2) h2).trans h.c2, (c.block _ (block_lt h.c5) h5).trans h.c5⟩
theorem ChCells.old {w w' : World} {g q2 q5 bc : Nat} (h : ChCells w g q2 q5 bc) (o : Old w w') : ChCells w' g q2 q5 bc := ⟨o.heap h.c2, o.heap h.c5⟩

/-- the keys of entries -/
def KeysOf (l : List Ent) (ks : List (List Cell)) : Prop := ∀ x, x ∈ ks ↔ ∃ e ∈ l, e.key = x
theorem KeysOf.next {l : List Ent} {ks : List (List Cell)} (h : KeysOf l ks) (e : Ent) : KeysOf (l ++ [e]) (if e.key ∈ ks then ks else ks ++ [e.key]) := by
  intro x
  by_cases hk : e.key ∈ ks
  · rw [if_pos hk, h]
    constructor
    · rintro ⟨y, hy, rfl⟩; exact ⟨y, by simp [hy], rfl⟩
    · rintro ⟨y, hy, rfl⟩
      rcases List.mem_append.1 hy with hy | hy
      · exact ⟨y, hy, rfl⟩
      · have : y = e := by simpa using hy
        subst this
        exact (h _).1 hk
  · rw [if_neg hk, List.mem_append, h]
    constructor
    · rintro (⟨y, hy, rfl⟩ | hx)
      · exact ⟨y, by simp [hy], rfl⟩
      · exact ⟨e, by simp, by simpa using Eq.symm (by simpa using hx)⟩
    · rintro ⟨y, hy, rfl⟩
      rcases List.mem_append.1 hy with hy | hy
      · exact .inl ⟨y, hy, rfl⟩
      · have : y = e := by simpa using hy
        subst this
        exact .inr (by simp)
/-- what changes hands back -/
def ChPost (w : World) (S : Nat) (f : Gf) (l : List Ent) (e : Ending) (w' : World) : Prop :=
  ∃ (bc : Nat) (ks : List (List Cell)) (p nb : List Cell → Nat) (M : ByteArray → Option Value), e = .returned (.map (some bc)) ∧ w.heap.size ≤ bc ∧ CMap w' bc w.heap.size l.length (fun x => numsOf S (gAdd f l) x) ks p nb M ∧ KeysOf l ks ∧ Old w w'
def ChLoop (w : World) (bc S k : Nat) (f : Gf) (l : List Ent) (wr : World) : Prop :=
  ∃ (ks : List (List Cell)) (p nb : List Cell → Nat) (M : ByteArray → Option Value), CMap wr bc w.heap.size k (fun x => numsOf S (gAdd f (l.take k)) x) ks p nb M ∧ KeysOf (l.take k) ks

set_option maxRecDepth 100000 in
set_option maxHeartbeats 4000000 in
theorem changes_run (g bm K S m : Nat) (f : Gf) (MG : ByteArray → Option Value) (B : Nat → Prop) (v : Value) (l : List Ent) (w : World)
    (g2 : w.cell? ⟨g, 2, none⟩ = some (.int .i64 S)) (g3 : w.cell? ⟨g, 3, none⟩ = some (.map (some bm))) (hM : GMap w bm m K S f (leftB S f) B MG) (hS : S ≤ 64) (hf : GFit S f)
    (hl : EntsIs w v l) (hn : l.length ≤ 10000) (hfine : ∀ e ∈ l, EntFine e) (hmay : ∀ e ∈ l, e.vals.length = S) (hp : PowTab w) :
    Calls Tryz.prog 35 #[.pointer (some ⟨g, 0, none⟩), v] w (ChPost w S f l) := by
  obtain ⟨A, ca, us, vs, rfl, hla, hma, hul, hvl, hur, hvr, ha⟩ := hl.open_
  unfold maxLen at hma
  have HUR := hide hur
  have HVR := hide hvr
  have HA := hide ha
  have HFI := hide hfine
  have HMY := hide hmay
  have HG2 := hide g2
  have HG3 := hide g3
  have HM := hide hM
  have HP := hide hp
  have HGF := hide hf
  have hmm := @run_makeMap Tryz.prog
  clear hur hvr ha hfine hmay g2 g3 hM hp hf hl
  go_enter Tryz.func35, Tryz.ntmps35
  go_wp2_with fail
  go_loopw [16] (fun i wr => ∃ k : Nat, i = .int .i64 k ∧ k ≤ l.length ∧ Hid (ChLoop w (w.heap.size + 1) S k f l wr) ∧ Hid (ChCells wr g w.heap.size (w.heap.size + 1 + 1) (w.heap.size + 1)) ∧ Hid (Old w wr)) (fun i _ => l.length - (intOf i).toNat)
  case atStart =>
    refine ⟨0, rfl, by omega, hide ⟨[], fun _ => 0, fun _ => 0, fun _ => none, ?_, fun x => by simp⟩, hide ⟨?_, ?_⟩, hide ((((Old.refl w).alloc _).alloc _).alloc _)⟩
    · exact (CMap.made (w.alloc (.cells #[.pointer (some ⟨g, 0, none⟩)] 24)) w.heap.size (fun x => numsOf S (gAdd f (l.take 0)) x) (fun _ => 0) (fun _ => 0)).old ((Old.refl _).alloc _) |> fun h => by simpa using h
    · exact (((Old.refl _).alloc _).alloc _).heap (heap_alloc_at (w := w) _)
    · have := heap_alloc_at (w := (w.alloc (.cells #[.pointer (some ⟨g, 0, none⟩)] 24)).alloc (.map #[] 0)) (.cells #[.map (some (w.heap.size + 1))] 74)
      simpa using this
  case round =>
    obtain ⟨k, rfl, hk, HL, HC, HO⟩ := hrel
    by_cases hlt : k < l.length
    · have hku : k < us.length := by omega
      have hkv : k < vs.length := by omega
      obtain ⟨b1, o1, rfl, hc1⟩ := HA.out.resolve_left (by omega)
      obtain ⟨x0, x1, x2⟩ := hc1 k hlt hku hkv
      have y0 := HO.out.cell x0
      have y1 := HO.out.cell x1
      have y2 := HO.out.cell x2
      have HU := hide ((HUR.out k hlt hku).old HO.out)
      have HV := hide (HVR.out k hlt hkv)
      have HF := hide (HFI.out l[k] (List.getElem_mem hlt))
      have HY := hide (HMY.out l[k] (List.getElem_mem hlt))
      have HTK := hide (take_snoc hlt)
      clear hc1 x0 x1 x2
      obtain ⟨e, he⟩ : ∃ e, Hid (l[k] = e) := ⟨_, hide rfl⟩
      obtain ⟨uk, huk⟩ : ∃ uk, us[k] = uk := ⟨_, rfl⟩
      obtain ⟨vk, hvk⟩ : ∃ vk, vs[k] = vk := ⟨_, rfl⟩
      rw [he.out] at y2 HU HV HF HY HTK
      rw [huk] at y0 HU
      rw [hvk] at y1 HV
      obtain ⟨ks, p, nb, M, hCM, hKS⟩ := HL.out
      have HCM := hide hCM
      have HKS := hide hKS
      obtain ⟨Au, cu, rfl, -, -, -⟩ := id HU.out
      obtain ⟨Av, cv, rfl, hlv, hmv, hav⟩ := HV.out.row
      unfold maxLen at hmv
      have HAV := hide hav
      have hvl2 : Hid (e.vals.length = S) := HY
      rw [hvl2.out] at hlv y1 
      have hFx : Hid (e.key ∉ ks → numsOf S (gAdd f (l.take k)) e.key = numsOf S f e.key) := hide (fun hx => by
        have : ∀ i, tot (l.take k) e.key i = 0 := fun i => tot_none (fun y hy hh => hx ((HKS.out _).2 ⟨y, hy, hh⟩)) i
        unfold numsOf gAdd
        simp [this])
      have CAT := hide (fun (w1 : World) (o : Old wr w1) => at_run (w.heap.size + 1 + 1) w.heap.size (w.heap.size + 1) g bm w.heap.size K S k m f (fun x => numsOf S (gAdd f (l.take k)) x) ks p nb M MG B (.slice Au e.key.length cu) e.key w1
        ((cell_of_heap (o.heap HC.out.c5)).trans rfl) ((cell_of_heap (o.heap HC.out.c2)).trans rfl) ((HO.out.trans o).cell HG2.out) ((HO.out.trans o).cell HG3.out) (HM.out.old (HO.out.trans o)) hS HGF.out (HCM.out.old o) (by omega) (HU.out.old o) HF.out.key (HP.out.old (HO.out.trans o)) hFx.out (HO.out.trans o).size)
      clear hCM hKS hav HL
      go_wp2_with fail
      refine (CAT.out _ ((Old.refl wr).alloc _)).mono ?_
      rintro e0 w1 ⟨p', nb', M', rfl, hcm, hch⟩
      obtain ⟨ks', hks'⟩ : ∃ ks', Hid ((if e.key ∈ ks then ks else ks ++ [e.key]) = ks') := ⟨_, hide rfl⟩
      rw [hks'.out] at hcm
      have HK1 := hide (show KeysOf (l.take (k + 1)) ks' by rw [HTK.out, ← hks'.out]; exact HKS.out.next e)
      have hx : e.key ∈ ks' := (HK1.out _).2 ⟨e, by rw [HTK.out]; simp, rfl⟩
      have hAt := hcm.at_ e.key hx
      have hlon := hAt.lon
      have hlop := hAt.lop
      obtain ⟨P0, hP0⟩ : ∃ P0, p' e.key = P0 := ⟨_, rfl⟩
      obtain ⟨N0, hN0⟩ : ∃ N0, Hid (nb' e.key = N0) := ⟨_, hide rfl⟩
      rw [hP0] at hAt hlop ⊢
      rw [hN0.out] at hAt hlon
      obtain ⟨G, hG⟩ : ∃ G, Hid (gAdd f (l.take k) = G) := ⟨_, hide rfl⟩
      rw [hG.out] at hcm hAt
      have HCM1 := hide hcm
      have hq5 : w.heap.size + 1 + 1 < wr.heap.size := block_lt HC.out.c5
      have HC1 := hide ((HC.out.old ((Old.refl wr).alloc _)).chg hch (by omega) (by omega))
      have HBX := hide ((hch.block wr.heap.size (by simp) (by omega)).trans (heap_alloc_at (w := wr) _))
      have HO1 := hide (show Old w w1 from Below.trans (HO.out.alloc _) (Chg.below hch (lo := w.heap.size) (Nat.le_trans HO.out.size (by simp)) (by omega)))
      have HHD := hide hAt.head
      have HNU := hide hAt.nums
      clear hcm hch CAT hAt HCM HKS HC HO y0 y1 y2
      obtain ⟨kv, hkv0, -⟩ := id HHD.out
      have hlN : (numsOf S G e.key).length = S + 1 := numsOf_length S G e.key
      have a1 : ∀ q : Later w1, q.world.cell? ⟨P0, 1, none⟩ = some (.slice (some ⟨N0, 0, none⟩) (S + 1) (S + 1)) := fun q => q.old.cell ((cell_of_heap hkv0).trans (by rw [hlN]; rfl))
      have z0 := wide_cells HNU.out (i := 0) (by rw [hlN]; omega)
      rw [nums_at] at z0
      obtain ⟨s0, hs0⟩ : ∃ s0, Hid (G e.key 0 = s0) := ⟨_, hide rfl⟩
      rw [hs0.out] at z0
      obtain ⟨z0, z1, z2⟩ := z0
      have d0 : ∀ q : Later w1, q.world.cell? ⟨N0, 0, none⟩ = some (.int .u64 (wA s0)) := fun q => q.old.cell z0
      have d1 : ∀ q : Later w1, q.world.cell? ⟨N0, 1, none⟩ = some (.int .u64 (wB s0)) := fun q => q.old.cell z1
      have d2 : ∀ q : Later w1, q.world.cell? ⟨N0, 2, none⟩ = some (.int .u64 (wC s0)) := fun q => q.old.cell z2
      have bx2 : ∀ q : Later w1, q.world.cell? ⟨wr.heap.size, 2, none⟩ = some (.int .i64 e.w) := fun q => q.old.cell ((cell_of_heap HBX.out).trans rfl)
      have C1 := hide (fun q : Later w1 => (wide_Of e.w q.world HF.out.w).mono fun e' w' h => (⟨h.1, h.2.old⟩ : e' = .returned (wide e.w) ∧ Old q.world w'))
      have C2 := hide (fun q : Later w1 => (wide_Add s0 e.w q.world).mono fun e' w' h => (⟨h.1, h.2.old⟩ : e' = .returned (wide (s0 + e.w)) ∧ Old q.world w'))
      have hS1 : 0 < S + 1 := by omega
      clear z0 z1 z2 hkv0
      go_wp2_with fail
      refine region_later_tail 15 (by kernel_rfl) (by kernel_rfl) ?_
      simp only [List.take_succ_cons, List.take_zero, List.drop_succ_cons, List.drop_zero]
      repeat (go_big_quiet_step (first | (go_at_call 54; exact Later.call (C1.out _)) | (go_at_call 53; exact Later.call (C2.out _))))
      refine wpQuiet_nil ?_
      rintro wq ⟨⟨_, hwq⟩, rfl⟩
      clear a1 d0 d1 d2 bx2 C1 C2
      have HNQ := hide (hwq.heap HNU.out)
      obtain ⟨v0, v1, v2⟩ := wide_cells HNQ.out (i := 0) (by rw [hlN]; omega)
      have f0 : ∀ i, wq.frozen? ⟨N0, i, none⟩ = false := fun i => free_of_heap HNQ.out
      obtain ⟨w2, hw2⟩ : ∃ w2, Hid ((((wq.setCell ⟨N0, 0, none⟩ (.int .u64 (wA (s0 + e.w)))).setCell ⟨N0, 1, none⟩ (.int .u64 (wB (s0 + e.w)))).setCell ⟨N0, 2, none⟩ (.int .u64 (wC (s0 + e.w)))) = w2) := ⟨_, hide rfl⟩
      have HG2' := hide (show Chg (fun b => b = N0) w1 w2 by
        rw [← hw2.out]
        exact ((Chg.of_old (X := fun b => b = N0) hwq).trans (chg_wide wq N0 0 _ _ _) (fun _ _ e => e) (fun _ _ e => e)))
      have HCM2 := hide (show CMap w2 (w.heap.size + 1) w.heap.size (k + 1) (fun y => numsOf S (pF G e 0) y) ks' p' nb' M' by
        refine CMap.wrote HCM1.out (k := e.key) (ns := (numsOf S G e.key).set 0 (s0 + e.w)) hx (by rw [hN0.out]; exact HG2'.out) ?_ (by simp) ?_ (fun j hj => pF_other hj)
        · rw [hN0.out, ← hw2.out]
          exact set_wide HNQ.out (i := 0) (by rw [hlN]; omega) (s0 + e.w)
        · rw [pF_zero, hs0.out])
      have bx1 : wq.cell? ⟨wr.heap.size, 1, none⟩ = some (.slice Av S cv) := hwq.cell ((cell_of_heap HBX.out).trans rfl)
      have hne : ¬ N0 = wr.heap.size := heap_ne HNU.out HBX.out (by decide)
      have hne2 : ¬ wr.heap.size = N0 := fun h => hne h.symm
      clear hwq HNQ
      go_wp2_with fail
      rw [hw2.out]
      clear v0 v1 v2 f0 bx1
      obtain ⟨X0, hX0⟩ : ∃ X0, X0 = wr.heap.size := ⟨_, rfl⟩
      rw [← hX0] at HBX hne hne2 hq5 ⊢
      clear hX0
      go_loopw [42] (fun i wz => ∃ j : Nat, i = .int .i64 j ∧ j ≤ S ∧ Hid (CMap wz (w.heap.size + 1) w.heap.size (k + 1) (fun y => numsOf S (pF G e j) y) ks' p' nb' M') ∧ Hid (Chg (fun b => b = N0) w1 wz)) (fun i _ => S - (intOf i).toNat)
      case atStart => exact ⟨0, rfl, by omega, HCM2, HG2'⟩
      case round =>
        obtain ⟨j, rfl, hj, HCZ, HGZ⟩ := hrel
        have HOZ := hide (show Old w wr from Below.trans HO1.out (Chg.below HGZ.out (lo := w.heap.size) HO1.out.size (by omega)))
        have HBZ := hide ((HGZ.out.block X0 (block_lt HBX.out) (show ¬ X0 = N0 from hne2)).trans HBX.out)
        by_cases hjS : j < S
        · have hjv : j < e.vals.length := by rw [hvl2.out]; exact hjS
          obtain ⟨b3, o3, rfl, hc3⟩ := HAV.out.resolve_left (by rw [hvl2.out]; omega)
          obtain ⟨x0, x1, x2⟩ := hc3 j hjv
          have y0 := HOZ.out.cell x0
          have y1 := HOZ.out.cell x1
          have y2 := HOZ.out.cell x2
          clear hc3 x0 x1 x2
          have HPC := hide (part_cell hjv)
          have HCF := hide (HF.out.vals e.vals[j] (List.getElem_mem hjv))
          obtain ⟨c, hc⟩ : ∃ c, Hid (e.vals[j] = c) := ⟨_, hide rfl⟩
          rw [hc.out] at y0 y1 y2 HPC HCF
          cases hnl : c.null
          · rw [hnl] at y0
            have HP2 := hide (show part e (j + 1) = e.w * c.n by rw [HPC.out, hnl]; rfl)
            have hAt := HCZ.out.at_ e.key hx
            rw [hP0, hN0.out] at hAt
            have HNZ := hide hAt.nums
            obtain ⟨kv, hkv0, -⟩ := hAt.head
            have hlZ : (numsOf S (pF G e j) e.key).length = S + 1 := numsOf_length S _ _
            have HPN := hide (pF_next (f := G) (e := e) (S := S) (j := j))
            have HNN := hide (nums_at (S := S) (i := j + 1) (pF G e j) e.key (by rw [hlZ]; omega))
            obtain ⟨zj, hzj⟩ : ∃ zj, Hid (pF G e j e.key (j + 1) = zj) := ⟨_, hide rfl⟩
            obtain ⟨J, hJ⟩ : ∃ J, Hid (j + 1 = J) := ⟨_, hide rfl⟩
            have z0 := wide_cells HNZ.out (i := j + 1) (by rw [hlZ]; omega)
            rw [HNN.out, hzj.out] at z0
            rw [hzj.out, HP2.out] at HPN
            have hwJ : IntKind.i64.wrap (1 + (j : Int)) = (J : Int) := (IntWalk.i64_in _ (by omega)).trans (by rw [← hJ.out]; omega)
            have hJS : J < S + 1 := by rw [← hJ.out]; omega
            obtain ⟨W1, hW1⟩ : ∃ W1, Hid (wr.alloc (.cells #[.bool false, .int .i64 c.n, .string c.s] 65) = W1) := ⟨_, hide rfl⟩
            have oW : Old wr W1 := by rw [← hW1.out]; exact (Old.refl wr).alloc _
            rw [hJ.out] at z0
            obtain ⟨z0, z1, z2⟩ := z0
            have a1 : ∀ q : Later W1, q.world.cell? ⟨P0, 1, none⟩ = some (.slice (some ⟨N0, 0, none⟩) (S + 1) (S + 1)) := fun q => q.old.cell (oW.cell ((cell_of_heap hkv0).trans (by rw [hlZ]; rfl)))
            have d0 : ∀ q : Later W1, q.world.cell? ⟨N0, J * 3, none⟩ = some (.int .u64 (wA zj)) := fun q => q.old.cell (oW.cell z0)
            have d1 : ∀ q : Later W1, q.world.cell? ⟨N0, J * 3 + 1, none⟩ = some (.int .u64 (wB zj)) := fun q => q.old.cell (oW.cell z1)
            have d2 : ∀ q : Later W1, q.world.cell? ⟨N0, J * 3 + 2, none⟩ = some (.int .u64 (wC zj)) := fun q => q.old.cell (oW.cell z2)
            have bx2 : ∀ q : Later W1, q.world.cell? ⟨X0, 2, none⟩ = some (.int .i64 e.w) := fun q => q.old.cell (oW.cell ((cell_of_heap HBZ.out).trans rfl))
            have cx1 : ∀ q : Later W1, q.world.cell? ⟨wr.heap.size, 1, none⟩ = some (.int .i64 c.n) := fun q => q.old.cell (by rw [← hW1.out]; go_simp)
            have C1 := hide (fun q : Later W1 => (wide_Mul e.w c.n q.world HF.out.w HCF.out).mono fun e' w' h => (⟨h.1, h.2.old⟩ : e' = .returned (wide (e.w * c.n)) ∧ Old q.world w'))
            have C2 := hide (fun q : Later W1 => (wide_Add zj (e.w * c.n) q.world).mono fun e' w' h => (⟨h.1, h.2.old⟩ : e' = .returned (wide (zj + e.w * c.n)) ∧ Old q.world w'))
            obtain ⟨pr, hpr⟩ : ∃ pr, Hid (e.w * c.n = pr) := ⟨_, hide rfl⟩
            rw [hpr.out] at C1 C2 HPN
            have oW' := hide oW
            clear z0 z1 z2 hkv0 hAt oW
            go_wp2_with fail
            rw [hW1.out]
            refine region_later_tail 21 (by kernel_rfl) (by kernel_rfl) ?_
            simp only [List.take_succ_cons, List.take_zero, List.drop_succ_cons, List.drop_zero]
            repeat (go_big_quiet_step (first | (go_at_call 66; exact Later.call (C1.out _)) | (go_at_call 53; exact Later.call (C2.out _))))
            refine wpQuiet_nil ?_
            rintro wq2 ⟨⟨_, hwq⟩, rfl⟩
            clear a1 d0 d1 d2 bx2 cx1 C1 C2
            have hwz := oW'.out.trans hwq
            have HNQ := hide (hwz.heap HNZ.out)
            obtain ⟨v0, v1, v2⟩ := wide_cells HNQ.out (i := j + 1) (by rw [hlZ]; omega)
            rw [HNN.out, hzj.out, hJ.out] at v0 v1 v2
            have f0 : ∀ i, wq2.frozen? ⟨N0, i, none⟩ = false := fun i => free_of_heap HNQ.out
            have HSW := hide (set_wide HNQ.out (i := j + 1) (by rw [hlZ]; omega) (zj + pr))
            rw [← HPN.out, hJ.out] at HSW
            have HCW := hide ((Chg.of_old (X := fun b => b = N0) hwz).trans (chg_wide wq2 N0 (J * 3) (.int .u64 (wA (zj + pr))) (.int .u64 (wB (zj + pr))) (.int .u64 (wC (zj + pr)))) (fun _ _ e => e) (fun _ _ e => e))
            clear hwq hwz HNQ
            go_wp2_with fail
            go_roundw
            case rel =>
              refine ⟨j + 1, by go_num, by omega, hide ?_, hide (HGZ.out.trans HCW.out (fun _ _ e => e) (fun _ _ e => e))⟩
              refine CMap.wrote HCZ.out (k := e.key) (ns := numsOf S (pF G e (j + 1)) e.key) hx (by rw [hN0.out]; exact HCW.out) ?_ (by simp [numsOf_length]) rfl (fun y hy => (pF_other hy).trans (pF_other hy).symm)
              rw [hN0.out, hJ.out]
              exact HSW.out
            case measure => simp [intOf]; omega
          · rw [hnl] at y0
            have HP2 := hide (show part e (j + 1) = 0 by rw [HPC.out, hnl]; rfl)
            go_wp2_with fail
            go_roundw
            case rel =>
              refine ⟨j + 1, by go_num, by omega, hide ?_, hide (HGZ.out.step ((Old.refl wr).alloc _))⟩
              have hEq : (fun y => numsOf S (pF G e (j + 1)) y) = (fun y => numsOf S (pF G e j) y) := funext fun y => pF_skip HP2.out y
              rw [hEq]
              exact HCZ.out.old ((Old.refl wr).alloc _)
            case measure => simp [intOf]; omega
        · have hjS2 : j = S := by omega
          have HEND := hide (show CMap wr (w.heap.size + 1) w.heap.size (k + 1) (fun y => numsOf S (gAdd f (l.take (k + 1))) y) ks' p' nb' M' by
            have hEq : (fun y => numsOf S (gAdd f (l.take (k + 1))) y) = (fun y => numsOf S (pF G e j) y) := funext fun y => by
              rw [hjS2, ← hG.out, pF_end, HTK.out]
            rw [hEq]
            exact HCZ.out)
          have HCC := hide (HC1.out.chg HGZ.out (heap_ne HC1.out.c2 HNU.out (by decide)) (heap_ne HC1.out.c5 HNU.out (by decide)))
          go_wp2_with fail
          go_roundw
          case rel => exact ⟨k + 1, by go_num, by omega, hide ⟨ks', p', nb', M', HEND.out, HK1.out⟩, HCC, HOZ⟩
          case measure => simp [intOf]; omega
    · have hkl : k = l.length := by omega
      obtain ⟨ks, p, nb, M, hCM, hKS⟩ := HL.out
      have hall : l.take k = l := List.take_of_length_le (by omega)
      rw [hall] at hCM hKS
      rw [hkl] at hCM
      have HCM := hide hCM
      have HKS := hide hKS
      have y5 : wr.cell? ⟨w.heap.size + 1 + 1, 0, none⟩ = some (.map (some (w.heap.size + 1))) := (cell_of_heap HC.out.c5).trans rfl
      clear hall hCM hKS HL
      go_wp2_with fail
      go_ret
      exact ⟨w.heap.size + 1, ks, p, nb, M, rfl, by omega, HCM.out, HKS.out, HO.out⟩
end Go.Proofs.YtmfbblcipakaiaaGreatDoor
