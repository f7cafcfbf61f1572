/- slices.SortFunc of positions by the keys of the nodes there. -/
import Derived.Test.YtkefhhnbkhijgaaDoorSortJ
import Derived.Test.YtkefhhnbkhijgaaDoorSortL
import Derived.Sort.OwnSortedInts
namespace Go.Proofs.YtkefhhnbkhijgaaDoor
open Go.RowKit Go.Shelf Go.Lib Go.Sort

theorem sortWorld_grown {α : Type} [Inhabited α] (enc : α → Value) (w : World) (g off n : Nat) (d : Array α) (os : Array Obj) : w.grownBy (sortWorld enc w g off n d os) (some g) := by
  refine ⟨rfl, rfl, rfl, by simp [sortWorld], fun k hk hne => ?_⟩
  unfold sortWorld
  rw [heap_grow_old _ _ (by simpa using hk)]
  have : g ≠ k := fun e => hne (by rw [e])
  simp [putRow, mapBlock, Sort.ahead, Array.getElem?_modify, this]

abbrev Pos (t : List Nd) : Type := { p : Nat // p < t.length }
def Pos.enc {t : List Nd} (p : Pos t) : Value := .int .i64 (p.1 : Int)
def Pos.cf {t : List Nd} (x y : Pos t) : Int := keyOrd t[x.1].key t[y.1].key
def keyAt (t : List Nd) (k : Nat) : ByteArray := (t[k]?.map Nd.key).getD none_
theorem keyAt_get {t : List Nd} {k : Nat} (h : k < t.length) : keyAt t k = t[k].key := by simp [keyAt, h]
theorem keyOrd_neg (a b : ByteArray) : keyOrd a b < 0 ↔ keyLt a b := by
  rw [← less_iff, keyOrd]
  cases Op.bytesLess a.toList b.toList <;> simp
theorem lt_pos {t : List Nd} (x y : Pos t) : ltOf Pos.cf x y = true ↔ keyLt (keyAt t x.1) (keyAt t y.1) := by
  rw [ltOf, decide_eq_true_eq, Pos.cf, keyOrd_neg, keyAt_get x.2, keyAt_get y.2]
theorem lt_pos_no {t : List Nd} (x y : Pos t) : ltOf Pos.cf x y = false ↔ ¬ keyLt (keyAt t x.1) (keyAt t y.1) := by
  rw [← lt_pos, Bool.not_eq_true]
theorem pos_swo (t : List Nd) : SWO (ltOf (Pos.cf (t := t))) where
  irrefl x := (lt_pos_no _ _).2 (keyLt_irrefl _)
  trans x y z h1 h2 := (lt_pos _ _).2 (keyLt_trans ((lt_pos _ _).1 h1) ((lt_pos _ _).1 h2))
  ntrans x y z h1 h2 := by
    rw [lt_pos_no] at *
    exact List.not_lt.2 (List.le_trans (List.not_lt.1 h2) (List.not_lt.1 h1))

theorem sort_ints (g off cap : Nat) (ks : List Nat) (t : List Nd) (rb : Nat) (kv : Value) (w w0 : World) (hne : ks ≠ []) (hn : ks.length ≤ 4194304)
    (hc : ∀ j, (h : j < ks.length) → w.cell? ⟨g, off + j, none⟩ = some (.int .i64 (ks[j] : Int)) ∧ w.frozen? ⟨g, off + j, none⟩ = false) (hg : g < w.heap.size)
    (ho : Old w0 w) (hg0 : w0.heap.size ≤ g) (hrb : w0.cell? ⟨rb, 0, none⟩ = some kv) (hkv : NodesIs w0 kv t) (hk : ∀ k ∈ ks, k < t.length) :
    Calls Tryd.prog 62 #[.slice (some ⟨g, off, none⟩) ks.length cap, .func (.func 63) #[] #[.pointer (some ⟨rb, 0, none⟩)]] w fun e w' =>
      e = .returned (.tuple #[]) ∧ ∃ ks' : List Nat, ks'.Perm ks ∧ ks'.Pairwise (fun a b => ¬ keyLt (keyAt t b) (keyAt t a)) ∧ (∀ j, (h : j < ks'.length) → w'.cell? ⟨g, off + j, none⟩ = some (.int .i64 (ks'[j] : Int))) ∧ w.grownBy w' (some g) := by
  have hpos : 0 < t.length := by
    cases ks with
    | nil => exact absurd rfl hne
    | cons k l => exact Nat.lt_of_le_of_lt (Nat.zero_le _) (hk k (by simp))
  haveI : Inhabited (Pos t) := ⟨⟨0, hpos⟩⟩
  obtain ⟨d, hd⟩ : ∃ d : Array (Pos t), d.toList.map Subtype.val = ks := ⟨(ks.attach.map fun p => (⟨p.1, hk p.1 p.2⟩ : Pos t)).toArray, by simp⟩
  have hsz : d.size = ks.length := by rw [← hd]; simp
  have hget : ∀ j, (h : j < ks.length) → (d[j]!).1 = ks[j] := by
    intro j h
    rw [getElem!_pos d j (by omega)]
    simp [← hd]
  have hH : Holds (α := Pos t) Pos.enc w g off d := by
    intro j hj
    obtain ⟨c1, c2⟩ := hc j (by omega)
    refine ⟨?_, c2⟩
    rw [c1, Pos.enc, hget j (by omega)]
  have eg : ∀ args w, (callFunc 63 args).run Tryd.prog w = .ok (.enter 63 args) w := enters_of Tryd.func63 (by kernel_rfl) rfl
  have hcmp : CmpReads (α := Pos t) Tryd.prog 63 #[.pointer (some ⟨rb, 0, none⟩)] Pos.enc Pos.cf g off d.size w := by
    intro m os dk _ x y
    have hO : Old w0 (sortWorld Pos.enc w g off m dk os) := Below.grown ho (sortWorld_grown _ _ _ _ _ _ _) ho.size fun k hk => by injection hk with hk; omega
    exact key_order x.1 y.1 rb kv t _ x.2 y.2 (hO.cell hrb) (hkv.old hO)
  have h := Any.slices_SortFunc (α := Pos t) Tryd.sortInts Pos.enc (fun _ => rfl) Pos.cf (pos_swo t) 63 #[.pointer (some ⟨rb, 0, none⟩)] g off cap d w eg hcmp.lays hH hg (by omega)
  change Calls Tryd.prog 62 _ _ _ at h
  rw [hsz] at h
  refine h.mono ?_
  rintro e w' ⟨rfl, d', n, os, ⟨p1, _, p3⟩, hs, rfl⟩
  refine ⟨rfl, d'.toList.map Subtype.val, ?_, ?_, ?_, sortWorld_grown _ _ _ _ _ _ _⟩
  · rw [← hd]
    refine List.Perm.map _ ?_
    have e1 : d'.extract 0 ks.length = d' := by rw [← hsz, ← p1]; simp
    have e2 : d.extract 0 ks.length = d := by rw [← hsz]; simp
    rwa [e1, e2] at p3
  · rw [List.pairwise_map, List.pairwise_iff_getElem]
    intro i j hi hj hij
    simp only [Array.length_toList] at hi hj
    have h1 := hs i j (Nat.zero_le _) hij (by omega)
    rw [getElem!_pos d' j hj, getElem!_pos d' i hi] at h1
    exact (lt_pos_no _ _).1 h1
  · intro j hj
    simp only [List.length_map, Array.length_toList] at hj
    have h1 := (holds_sortWorld Pos.enc w g off n d d' os hg hH p1 j hj).1
    rw [h1, Pos.enc, getElem!_pos d' j hj]
    simp
end Go.Proofs.YtkefhhnbkhijgaaDoor
