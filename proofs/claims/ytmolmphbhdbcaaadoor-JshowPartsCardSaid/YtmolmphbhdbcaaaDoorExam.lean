/- The chapter's examples: what they are. -/
import Derived.Test.YtmolmphbhdbcaaaDoorFew
import Derived.Test.YtmolmphbhdbcaaaDoorObj
import Derived.Deep.RegionHeld3
import Derived.Deep.RegionWith
namespace Go.Proofs.YtmolmphbhdbcaaaDoor
open Go.RowKit

def keyA : ByteArray := ⟨#[97]⟩
def exT : List Nd := [⟨7, none_, 0, none_, 5⟩, ⟨6, ⟨#[98]⟩, 0, none_, 3⟩, ⟨4, none_, 1, none_, 1⟩, ⟨1, none_, 0, none_, 1⟩, ⟨3, ⟨#[97]⟩, 0, none_, 1⟩]
def twT : List Nd := [⟨7, none_, 0, none_, 5⟩, ⟨6, ⟨#[98]⟩, 0, none_, 3⟩, ⟨4, none_, 1, none_, 1⟩, ⟨1, none_, 0, none_, 1⟩, ⟨3, ⟨#[98]⟩, 0, none_, 1⟩]
def ptT : List Nd := [⟨6, none_, 0, none_, 3⟩, ⟨4, none_, 1, none_, 1⟩, ⟨1, none_, 0, none_, 1⟩]
def exL : J := .mk ⟨6, ⟨#[98]⟩, 0, none_⟩ [.mk ⟨4, none_, 1, none_⟩ [], .mk ⟨1, none_, 0, none_⟩ []]
def exJ : J := .mk ⟨7, none_, 0, none_⟩ [exL, .mk ⟨3, ⟨#[97]⟩, 0, none_⟩ []]
theorem vU_a : vU ⟨#[97]⟩ = true := by kernel_rfl
theorem vU_b : vU ⟨#[98]⟩ = true := by kernel_rfl
theorem exMay : May exT exJ := by
  refine ⟨⟨?_, rfl, by simp [exT, exJ, exL, J.flat, J.flats]⟩, by simp [exT], by simp [exJ, exL, J.deep, J.deeps]⟩
  simp only [exJ, exL, J.Ok, J.Oks, leafOk, plainHd, keysOk, J.key, J.hd, List.map_cons, List.map_nil, vU_a, vU_b]
  simp [none_]
theorem nodes_cells {w : World} {A : Option Addr} {n c : Nat} {l : List Nd} (h : NodesIs w (.slice A n c) l) {i : Nat} {x : Nd} (hx : l[i]? = some x) : ∃ b off, A = some ⟨b, off, none⟩ ∧ w.cell? ⟨b, off + i * 5, none⟩ = some (.int .i64 x.kind) ∧ w.cell? ⟨b, off + i * 5 + 1, none⟩ = some (.string x.key) ∧
    w.cell? ⟨b, off + i * 5 + 2, none⟩ = some (.int .i64 x.n) ∧ w.cell? ⟨b, off + i * 5 + 3, none⟩ = some (.string x.s) ∧ w.cell? ⟨b, off + i * 5 + 4, none⟩ = some (.int .i64 x.size) := by
  obtain ⟨hi, hx⟩ := List.getElem?_eq_some_iff.1 hx
  obtain ⟨A', cap, he, h1, h2, h3⟩ := h.nodes
  injection he with e1 e2 e3
  subst e1 e2 e3
  obtain ⟨b, off, rfl, hc⟩ := h3.resolve_left (by omega)
  have := hc i hi
  rw [hx] at this
  exact ⟨b, off, rfl, this⟩
/-- nodes that a literal lays -/
theorem nodes_lit (w : World) (l : List Nd) (n : Nat) (h : w.heap.size = n) (lo : Nat) (hlo : lo ≤ n) (hl : l.length ≤ 1048576 := by decide) : NodesT lo (w.alloc (.cells (ndVals l).toArray 50)) (.slice (some ⟨n, 0, none⟩) l.length l.length) l := by
  refine ⟨_, _, rfl, Nat.le_refl _, by unfold maxLen; omega, fun _ => ⟨n, 0, _, rfl, hlo, heap_new _ _ _ h, fun j u hu => ?_⟩⟩
  rw [Nat.zero_add]
  simpa using hu
theorem texts_lit (w : World) (l : List ByteArray) (n : Nat) (h : w.heap.size = n) (hl : l.length ≤ 1048576 := by decide) : TextsIs (w.alloc (.cells (l.map Value.string).toArray 9)) (.slice (some ⟨n, 0, none⟩) l.length l.length) l := by
  refine ⟨_, _, rfl, Nat.le_refl _, by unfold maxLen; omega, fun _ => ⟨n, 0, rfl, fun j u hu => ?_⟩⟩
  rw [Nat.zero_add, cell_of_heap (heap_new _ _ _ h)]
  simpa using hu
theorem ints_lit (w : World) (l : List Nat) (n : Nat) (h : w.heap.size = n) (hl : l.length ≤ 1048576 := by decide) : IntsIs (w.alloc (.cells (intVals l).toArray 3)) (.slice (some ⟨n, 0, none⟩) l.length l.length) l := by
  refine ⟨_, _, rfl, Nat.le_refl _, by unfold maxLen; omega, fun _ => ⟨n, 0, rfl, fun j u hu => ?_⟩⟩
  rw [Nat.zero_add, cell_of_heap (heap_new _ _ _ h)]
  simpa using hu
theorem parts_lit (w : World) (gs : List (Value × List Nd)) (n : Nat) (h : w.heap.size = n) (hp : ∀ p ∈ gs, NodesIs w p.1 p.2) (hl : gs.length ≤ 1048576 := by simp) :
    PartsIs (w.alloc (.cells (gs.map Prod.fst).toArray 22)) (.slice (some ⟨n, 0, none⟩) gs.length gs.length) (gs.map Prod.snd) := by
  refine ⟨gs.map Prod.fst, by simp, ⟨_, _, by rw [List.length_map], by rw [List.length_map]; exact Nat.le_refl _, by unfold maxLen; omega, fun _ => ⟨n, 0, rfl, fun j u hu => ?_⟩⟩, fun i hi hi' => ?_⟩
  · rw [Nat.zero_add, cell_of_heap (heap_new _ _ _ h)]
    simpa using hu
  · have hi2 : i < gs.length := by simpa using hi
    simp only [List.getElem_map]
    exact (hp _ (List.getElem_mem hi2)).old ((Old.refl w).alloc _)
theorem heap_next (w : World) (o : Obj) : (w.alloc o).heap.size = w.heap.size + 1 := by simp
def nuT : List Nd := leafT 1 0 none_
def tyT : List Nd := leafT (if true then 3 else 2) 0 none_
def srT : List Nd := [⟨7, none_, 0, none_, 5⟩, ⟨3, ⟨#[97]⟩, 0, none_, 1⟩, ⟨6, ⟨#[98]⟩, 0, none_, 3⟩, ⟨4, none_, 1, none_, 1⟩, ⟨1, none_, 0, none_, 1⟩]
theorem sizes_ok (t : List Nd) (h : (t.all fun x => decide (x.key.size ≤ 1) && decide (x.s.size ≤ 1)) = true) : TextsOk t := by
  intro x hx
  have := List.all_eq_true.1 h x hx
  simp only [Bool.and_eq_true, decide_eq_true_eq] at this
  unfold maxLen
  omega
theorem exTx : TextsOk exT := sizes_ok _ (by decide)
theorem exTx4 : TextsOk (exT.take 4) := sizes_ok _ (by decide)
theorem twTx : TextsOk twT := sizes_ok _ (by decide)
theorem kTx : ∀ s ∈ ([⟨#[97]⟩, ⟨#[97]⟩] : List ByteArray), s.size ≤ maxLen := by decide
theorem kTx1 : ∀ s ∈ ([⟨#[97]⟩] : List ByteArray), s.size ≤ maxLen := by decide
theorem kTx2 : ∀ s ∈ ([⟨#[98]⟩, ⟨#[97]⟩] : List ByteArray), s.size ≤ maxLen := by decide
theorem two_tx {a b : List Nd} (ha : TextsOk a) (hb : TextsOk b) : ∀ p ∈ [a, b], TextsOk p := by
  intro p hp
  rcases List.mem_cons.1 hp with rfl | hp
  · exact ha
  · simp at hp
    subst hp
    exact hb
theorem two_parts {w : World} {a b : Value} {l m : List Nd} (ha : NodesIs w a l) (hb : NodesIs w b m) : ∀ p ∈ [(a, l), (b, m)], NodesIs w p.1 p.2 := by
  intro p hp
  rcases List.mem_cons.1 hp with rfl | hp
  · exact ha
  · simp at hp
    subst hp
    exact hb
theorem nTx : ∀ p ∈ [nuT, nuT], TextsOk p := two_tx (sizes_ok _ (by decide)) (sizes_ok _ (by decide))
theorem oTx : ∀ p ∈ [leafT 4 1 none_, nuT], TextsOk p := two_tx (sizes_ok _ (by decide)) (sizes_ok _ (by decide))
theorem pTx : ∀ p ∈ [ptT, tyT], TextsOk p := two_tx (sizes_ok _ (by decide)) (sizes_ok _ (by decide))
theorem PartsIs.nil_ (w : World) : PartsIs w (.slice none 0 0) [] := ⟨[], rfl, Sl.nil_ w, fun i hi => absurd hi (by simp)⟩
theorem str_as (s : ByteArray) (l : List Nd) (w : World) (hs : s.size ≤ 9223372036854775807) (hT : Tabs w) (e : strT s = l) : Calls Tryd.prog 23 #[.string s] w (NewNodes w l) := by
  subst e
  exact str_run s w hs hT
/-- a leaf -/
def leafJ (k n : Int) (s : ByteArray) : J := .mk ⟨k, none_, n, s⟩ []
theorem leafMay {k n : Int} {s : ByteArray} (h : leafOk vU ⟨k, none_, n, s⟩) : May (leafT k n s) (leafJ k n s) := by
  refine ⟨⟨?_, rfl, by simp [leafT, leafJ, J.flat, J.flats]⟩, by simp [leafT], by simp [leafJ, J.deep, J.deeps]⟩
  simp only [leafJ, J.Ok]
  exact .inl ⟨h, by trivial⟩
theorem nuMay : May nuT (leafJ 1 0 none_) := leafMay (.inl ⟨.inl rfl, rfl, rfl⟩)
theorem tyMay : May tyT (leafJ 3 0 none_) := leafMay (.inl ⟨.inr (.inr rfl), rfl, rfl⟩)
theorem onMay : May (leafT 4 1 none_) (leafJ 4 1 none_) := leafMay (.inr (.inl ⟨rfl, rfl⟩))
def ptJ : J := .mk ⟨6, none_, 0, none_⟩ [leafJ 4 1 none_, leafJ 1 0 none_]
theorem ptMay : May ptT ptJ := by
  refine ⟨⟨?_, rfl, by simp [ptT, ptJ, leafJ, J.flat, J.flats]⟩, by simp [ptT], by simp [ptJ, leafJ, J.deep, J.deeps]⟩
  simp only [ptJ, leafJ, J.Ok, J.Oks, leafOk, plainHd, J.key, J.hd]
  simp
theorem two_may {a b : List Nd} {ja jb : J} (ha : May a ja) (hb : May b jb) : AllMay [a, b] [ja, jb] := by
  refine ⟨rfl, fun i hi hi' => ?_⟩
  match i, hi with
  | 0, _ => exact ha
  | 1, _ => exact hb
theorem exGetA : GetT exT ⟨#[97]⟩ tyT true := .inr ⟨_, _, exMay, rfl, .inr ⟨.mk ⟨3, ⟨#[97]⟩, 0, none_⟩ [], by rfl, by simp [tyT, leafT, J.unkey, J.flat, J.flats], rfl⟩⟩
theorem exGetC : GetT exT ⟨#[99]⟩ [] false := .inr ⟨_, _, exMay, rfl, .inl ⟨by rfl, rfl, rfl⟩⟩
theorem exTwice : ObjT [⟨#[97]⟩, ⟨#[97]⟩] [nuT, nuT] [] 71 := by
  refine .inr ⟨rfl, .inl ⟨1, by simp, fun j hj => ?_, ?_, ?_, rfl⟩⟩
  · have : j = 0 := by omega
    subst this
    rw [objErr_chk (by simp) (by simp) vU_a rfl]
    exact chkT_may nuMay
  · rw [objErr_71 (by simp) vU_a rfl]
    decide
  · rw [objErr_71 (by simp) vU_a rfl]
theorem exArg : ObjT [⟨#[97]⟩] [] [] 2 := .inl ⟨by simp, rfl, rfl⟩
theorem exList : ListT [leafT 4 1 none_, nuT] ptT 0 := .inr ⟨_, two_may onMay nuMay, .inr (.inr ⟨by simp [leafJ, J.flat, J.flats], by simp [leafJ, J.deep, J.deeps], by simp [ptT, leafJ, J.flat, J.flats], rfl⟩)⟩
theorem exObj : ObjT [⟨#[98]⟩, ⟨#[97]⟩] [ptT, tyT] exT 0 := by
  refine .inr ⟨rfl, .inr ⟨fun j hj => ?_, _, two_may ptMay tyMay, .inr (.inr ⟨by simp [rekeys, J.rekey, ptJ, leafJ, J.flat, J.flats], by simp [rekeys, J.rekey, ptJ, leafJ, J.deep, J.deeps], by simp [exT, rekeys, J.rekey, ptJ, leafJ, J.flat, J.flats], rfl⟩)⟩⟩
  match j, hj with
  | 0, _ =>
    rw [objErr_chk (by simp) (by simp) vU_b rfl]
    exact chkT_may ptMay
  | 1, _ =>
    rw [objErr_chk (by simp) (by simp) vU_a (by decide)]
    exact chkT_may tyMay
theorem exKids : kidsT exT [1, 4] := .inl ⟨_, _, exMay, by simp [exL, starts, J.flat, J.flats]⟩
theorem exPart : PartT exT 1 ptT := .inr ⟨exJ, exL, 1, [⟨3, ⟨#[97]⟩, 0, none_, 1⟩], exMay, rfl, by decide, by simp [exT, exL, J.flat, J.flats], (kid_ok exMay.1.1 exL (by simp [exJ, J.kids])), by simp [exL, exJ, J.deep, J.deeps], by simp [ptT, exL, J.unkey, J.flat, J.flats]⟩
theorem exSorted {ps : List Nd} (h : SortedT exT ps) : srT = ps := by
  obtain ⟨j, hj, rfl⟩ := h.good (chkT_may exMay)
  have : j = exJ := flat_inj (hj.1.2.2.symm.trans exMay.1.2.2)
  subst this
  have hb : Op.bytesLess ([98] : List UInt8) [97] = false := by kernel_rfl
  simp [srT, exJ, exL, J.sort, J.sorts, ordJ, insJ, J.flat, J.flats, J.key, J.hd, hb]
def WorksOk : Prop := ∀ w : World, Tabs w → Calls Tryd.prog 15 #[] w fun e w' => e = .returned (.bool true) ∧ Old w w'
end Go.Proofs.YtmolmphbhdbcaaaDoor

