/- What an argument's reading says of it: rows, items and pairs of numbers; the row's last step. -/
import Derived.Test.YtmfbblcipakaiaaGreatDoorSum
import Derived.Test.YtmfbblcipakaiaaGreatDoorProg
import Derived.Deep.Slices
import Derived.Deep.Fields
import Derived.ChangeSame
import Derived.Below
import Derived.Carry
import Derived.ProofKit
import Derived.OpenShut
namespace Go.Proofs.YtmfbblcipakaiaaGreatDoor
open Go.RowKit Go.ChangeShapes Go.WideShapes Go.Deep

section
variable {H : Type} {enc : TypeId × Value → H} {P : Program} {w : World} {base : Nat} {spare : Nat → Bool} {held : Bool}
/-- a slice of structs of fields of one cell each, opened -/
theorem open_slice_fields {t e : TypeId} {fs : Array Field} {fuel : Nat} {cs : List Value} {x : DataW H × List MemPlace} (ht : P.underlying t = some (.slice e)) (he : P.underlying e = some (.struct fs))
    (hone : oneCellFields P fs = true) (hC : P.cellsOf e = fs.size) (h : DataW.trod enc P w base spare held fuel t cs = some x) :
    cs = [.slice none 0 0] ∨
    ∃ (a : Addr) (len cap : Nat), cs = [.slice (some a) len cap] ∧ len ≤ cap ∧ cap ≤ maxLen ∧
      ∀ i, i < len → ∃ (n : Nat), ∀ (j : Nat) (f : Field), fs[j]? = some f → ∃ (v : Value) (y : DataW H × List MemPlace), w.cell? (a.add (i * fs.size + j)) = some v ∧ DataW.trod enc P w base spare held n f.type [v] = some y := by
  rcases open_slice ht h with h0 | ⟨a, len, cap, m, n, D, Pl, hcs, hb, hl, hm, hmm, hx, hi⟩
  · exact .inl h0.1
  · refine .inr ⟨a, len, cap, hcs, hl, hm, fun i him => ?_⟩
    obtain ⟨cs', hc, ht'⟩ := hi i (by rw [hmm]; split <;> omega)
    rw [hC] at hc
    obtain ⟨ys, n', hn', hy, hlen, hyl, hf⟩ := DataW.trod_struct he ht'
    obtain ⟨_, hcl, hat⟩ := World.cells?_some hc
    refine ⟨n', fun j f hj => ?_⟩
    obtain ⟨ho, hk⟩ := hone_of hone j f hj
    have hjl : j < fs.size := (Array.getElem?_eq_some_iff.1 hj).1
    have hcell := hat j hjl
    have hv : cs'[j]? = some (cs'[j]'(by omega)) := List.getElem?_eq_getElem (by omega)
    have h1 := hf j f hj
    rw [ho, hk] at h1
    have hone' : (cs'.drop j).take 1 = [cs'[j]'(by omega)] := by
      rw [List.drop_eq_getElem_cons (by omega)]
      rfl
    rw [hone'] at h1
    have hys : ys[j]? = some (ys[j]'(by omega)) := List.getElem?_eq_getElem (by omega)
    refine ⟨_, _, ?_, h1.trans hys⟩
    rw [← Go.Deep.add_add, hcell, hv]
theorem spot_none {w : World} {a : Addr} {v : Value} (h : w.cell? a = some v) : a.spot = none := by
  unfold World.cell? at h
  split at h
  · split at h
    · cases h
    · rename_i hs; simpa using hs
  · cases h
theorem add_spot {a : Addr} (h : a.spot = none) (n : Nat) : a.add n = ⟨a.block, a.off + n, none⟩ := by
  unfold Addr.add
  split
  · rename_i h0; subst h0; cases a; simp_all
  · rfl
end

section
variable {H : Type} {enc : TypeId × Value → H} {w : World} {base : Nat} {spare : Nat → Bool} {held : Bool}
instance : Inhabited Cell := ⟨⟨false, 0, ⟨#[]⟩⟩⟩
theorem open_row {fuel : Nat} {cs : List Value} {x : DataW H × List MemPlace} (h : DataW.trod enc Tryz.prog w base spare held fuel 49 cs = some x) : ∃ v r, cs = [v] ∧ RowIs w v r := by
  rcases open_slice_fields Tryz.underlying49 Tryz.underlying65 (by kernel_rfl) (by kernel_rfl) h with rfl | ⟨a, len, cap, rfl, hl, hm, hf⟩
  · exact ⟨_, [], rfl, Sl.nil_ w⟩
  · have hx : ∀ i, i < len → ∃ c : Cell, w.cell? (a.add (i * 3 + 0)) = some (.bool c.null) ∧ w.cell? (a.add (i * 3 + 1)) = some (.int .i64 c.n) ∧ w.cell? (a.add (i * 3 + 2)) = some (.string c.s) := by
      intro i hi
      obtain ⟨n, hf⟩ := hf i hi
      obtain ⟨v0, y0, h0, t0⟩ := hf 0 _ rfl
      obtain ⟨v1, y1, h1, t1⟩ := hf 1 _ rfl
      obtain ⟨v2, y2, h2, t2⟩ := hf 2 _ rfl
      obtain ⟨b, e0, _⟩ := DataW.trod_bool Tryz.underlying4 t0
      obtain ⟨k, e1, _⟩ := DataW.trod_int Tryz.underlying2 t1
      obtain ⟨s, e2, _⟩ := DataW.trod_string Tryz.underlying9 t2
      injection e0 with e0
      injection e1 with e1
      injection e2 with e2
      subst e0 e1 e2
      exact ⟨⟨b, k, s⟩, h0, h1, h2⟩
    obtain ⟨V, hV⟩ := choose_lt hx
    refine ⟨_, (List.range len).map V, rfl, some a, cap, by simp, by simpa using hl, hm, fun hne => ?_⟩
    have hlen : 0 < len := by
      rcases Nat.eq_zero_or_pos len with h0 | h0
      · subst h0; exact absurd rfl hne
      · exact h0
    have hs : a.spot = none := by
      have := (hV 0 hlen).1
      exact spot_none (a := a) (by simpa [Addr.add] using this)
    refine ⟨a.block, a.off, by cases a; simp_all, fun j u hu => ?_⟩
    have hj : j < len * 3 := by
      have := (List.getElem?_eq_some_iff.1 hu).1
      rw [rowVals_length] at this
      simpa using this
    obtain ⟨i, k, rfl, hk⟩ : ∃ i k, j = i * 3 + k ∧ k < 3 := ⟨j / 3, j % 3, by omega, by omega⟩
    have hi : i < len := by omega
    have hg := rowVals_get ((List.range len).map V) i k hk (by simpa using hi)
    rw [hg] at hu
    obtain ⟨c0, c1, c2⟩ := hV i hi
    rw [add_spot hs] at c0 c1 c2
    match k, hk, hu with
    | 0, _, hu => simp [Cell.vals] at hu; subst hu; exact c0
    | 1, _, hu => simp [Cell.vals] at hu; subst hu; exact c1
    | 2, _, hu => simp [Cell.vals] at hu; subst hu; exact c2
theorem open_items {fuel : Nat} {cs : List Value} {x : DataW H × List MemPlace} (h : DataW.trod enc Tryz.prog w base spare held fuel 33 cs = some x) : ∃ v l, cs = [v] ∧ ItemsIs w v l ∧ ∀ y ∈ l, fit y.w := by
  rcases open_slice_fields Tryz.underlying33 Tryz.underlying60 (by kernel_rfl) (by kernel_rfl) h with rfl | ⟨a, len, cap, rfl, hl, hm, hf⟩
  · exact ⟨_, [], rfl, ⟨[], rfl, Sl.nil_ w, fun i hi => absurd hi (by simp)⟩, by simp⟩
  · have hx : ∀ i, i < len → ∃ c : Value × Item, w.cell? (a.add (i * 2 + 0)) = some c.1 ∧ w.cell? (a.add (i * 2 + 1)) = some (.int .i64 c.2.w) ∧ RowIs w c.1 c.2.row ∧ fit c.2.w := by
      intro i hi
      obtain ⟨n, hf⟩ := hf i hi
      obtain ⟨v0, y0, h0, t0⟩ := hf 0 _ rfl
      obtain ⟨v1, y1, h1, t1⟩ := hf 1 _ rfl
      obtain ⟨v, r, e0, hr⟩ := open_row t0
      obtain ⟨k, e1, _, hk⟩ := DataW.trod_int Tryz.underlying2 t1
      injection e0 with e0
      injection e1 with e1
      subst e0 e1
      refine ⟨(v0, ⟨r, k⟩), h0, h1, hr, ?_⟩
      simp [Lit.wf, IntKind.min, IntKind.max, IntKind.signed, IntKind.bits] at hk
      show -9223372036854775808 ≤ k ∧ k < 9223372036854775808
      omega
    have : Inhabited (Value × Item) := ⟨(.nilIface, ⟨[], 0⟩)⟩
    obtain ⟨V, hV⟩ := choose_lt hx
    refine ⟨_, (List.range len).map fun i => (V i).2, rfl, ⟨(List.range len).map fun i => (V i).1, by simp, ⟨some a, cap, by simp, by simpa using hl, hm, fun hne => ?_⟩, fun i hi hi' => ?_⟩, fun y hy => ?_⟩
    · have hlen : 0 < len := by
        rcases Nat.eq_zero_or_pos len with h0 | h0
        · subst h0; exact absurd rfl hne
        · exact h0
      have hs : a.spot = none := by
        have := (hV 0 hlen).1
        exact spot_none (a := a) (by simpa [Addr.add] using this)
      refine ⟨a.block, a.off, by cases a; simp_all, fun j u hu => ?_⟩
      have hj : j < len * 2 := by
        have := (List.getElem?_eq_some_iff.1 hu).1
        rw [itemVals_length _ _ (by simp)] at this
        simpa using this
      obtain ⟨i, k, rfl, hk⟩ : ∃ i k, j = i * 2 + k ∧ k < 2 := ⟨j / 2, j % 2, by omega, by omega⟩
      have hi : i < len := by omega
      obtain ⟨g1, g2⟩ := itemVals_get ((List.range len).map fun i => (V i).1) ((List.range len).map fun i => (V i).2) i (by simpa using hi) (by simpa using hi)
      obtain ⟨c0, c1, _, _⟩ := hV i hi
      rw [add_spot hs] at c0 c1
      match k, hk, hu with
      | 0, _, hu => rw [Nat.add_zero, g1] at hu; simp at hu; subst hu; exact c0
      | 1, _, hu => rw [g2] at hu; simp at hu; subst hu; exact c1
    · have hil : i < len := by simpa using hi
      obtain ⟨_, _, c2, _⟩ := hV i hil
      simpa using c2
    · obtain ⟨i, hi, rfl⟩ := List.mem_map.1 hy
      exact (hV i (List.mem_range.1 hi)).2.2.2
end

set_option maxRecDepth 100000 in
theorem open_pair {w : World} {H : Type} {enc : TypeId × Value → H} {base : Nat} {spare : Nat → Bool} {held : Bool} {r : Reach} {b0 : Nat} {v : Value} {d : DataW H} {p : List MemPlace} (hv : Value.okWide Tryz.prog w r b0 120 v) (h : DataW.Trod enc Tryz.prog w base spare held 120 v d p) :
    ∃ k0 k1 : Int, v = .agg #[.int .i64 k0, .int .i64 k1] ∧ fit k0 ∧ fit k1 := by
  simp only [Value.okWide, Tryz.underlying120] at hv
  obtain ⟨cs, rfl, hsz, _⟩ := hv
  have hc2 : Tryz.prog.cellsOf 120 = 2 := by kernel_rfl
  have hc1 : Tryz.prog.cellsOf 2 = 1 := by kernel_rfl
  rw [hc2] at hsz
  obtain ⟨l⟩ := cs
  match l, hsz with
  | [c0, c1], _ =>
    obtain ⟨fuel, hf⟩ := h
    obtain ⟨xs, n, _, _, _, hxl, hg⟩ := DataW.trod_array Tryz.underlying120 hf
    rw [hc1] at hg
    match xs, hxl with
    | [y0, y1], _ =>
      have g0 := hg 0 (by omega)
      have g1 := hg 1 (by omega)
      simp [Value.cells] at g0 g1
      obtain ⟨k0, e0, _, f0⟩ := DataW.trod_int Tryz.underlying2 g0
      obtain ⟨k1, e1, _, f1⟩ := DataW.trod_int Tryz.underlying2 g1
      injection e0 with e0
      injection e1 with e1
      subst e0 e1
      simp [Lit.wf, IntKind.min, IntKind.max, IntKind.signed, IntKind.bits] at f0 f1
      exact ⟨k0, k1, rfl, ⟨by omega, by omega⟩, ⟨by omega, by omega⟩⟩

section
variable {H : Type} {enc : TypeId × Value → H} {P : Program}
theorem post_of_below {f : Func} {s : ChangeSpec} {apart fresh handsOn again : Bool} {W W' : World} {args : Array Value} {v : Value} {ds gs : List (DataW H)} {before pa pv : List MemPlace}
    (hW : DataW.Whole enc P f.params.toList s.vars apart W args.toList ds gs before)
    (hres : ∀ (b : Nat) (sp : Nat → Bool) (hd : Bool), DataW.TrodAll enc P W' b sp hd f.resultTypes.toList (v.resultList f.resultTypes.size) (s.fn H (ds ++ gs)).results [])
    (hargs : ∀ sp : Nat → Bool, (∀ p ∈ before, sp p.block = true) → DataW.TrodAll enc P W' 0 sp true f.params.toList args.toList (s.fn H (ds ++ gs)).args pa)
    (hvars : ∀ sp : Nat → Bool, (∀ p ∈ before, sp p.block = true) → DataW.TrodVars enc P W' sp s.vars (s.fn H (ds ++ gs)).vars pv)
    (hps : before = pa ++ pv) (hb : Below W.heap.size W W')
    (hok : ∀ (j : Nat) (t : TypeId) (r : Value), f.resultTypes[j]? = some t → (v.resultList f.resultTypes.size)[j]? = some r → Value.okWide P W' .any 0 t r) :
    s.post enc P f apart fresh handsOn again W args v W' := by
  have hlt : ∀ p ∈ before, p.block < W.heap.size := fun p hp => hW.lt p hp
  have hold : ∀ p ∈ before, (fun b => decide (b < W.heap.size)) p.block = true := fun p hp => by simpa using hlt p hp
  refine ⟨ds, gs, before, [], pa, pv, hW, hres _ _ _, hargs _ hold, hvars _ hold, World.keptBut_mono (fun p hp => ⟨hp, ?_⟩) (hb.frame (· ∈ before)), fun _ => ?_⟩
  · rw [hps, List.mem_append] at hp
    exact Or.inr hp
  · obtain ⟨_, _, _, _, _, hz, hn⟩ := hW
    refine ⟨hok, _, _, ([] ++ pa) ++ pv, ⟨[] ++ pa, pv, trodAll_append (hargs _ (fun _ _ => rfl)) (hres _ _ _), hvars _ (fun _ _ => rfl), rfl, ?_, ?_⟩, ?_⟩
    · intro b off hp
      have hin : MemPlace.cell b off ∈ before := by rw [hps]; simpa using hp
      rw [hb.frozen (hlt _ hin)]
      exact hz b off hin
    · intro ha
      have := hn ha
      rw [hps] at this
      simpa using this
    · intro p hp _
      rw [hps]
      simpa using hp
end

section
variable {H : Type} {enc : TypeId × Value → H} {w : World} {base : Nat} {spare : Nat → Bool} {held : Bool}
set_option maxRecDepth 100000 in
theorem items_arg {r : Reach} {b0 : Nat} {v : Value} {d : DataW H} {p : List MemPlace} (hv : Value.okWide Tryz.prog w r b0 33 v) (h : DataW.Trod enc Tryz.prog w base spare held 33 v d p) : ∃ l, ItemsIs w v l ∧ ∀ y ∈ l, fit y.w := by
  obtain ⟨a, len, cap, rfl⟩ := okWide_slice Tryz.underlying33 hv
  obtain ⟨fuel, hf⟩ := h
  obtain ⟨v, l, e, h1, h2⟩ := open_items hf
  simp [Value.cells] at e
  subst e
  exact ⟨l, h1, h2⟩
set_option maxRecDepth 100000 in
theorem row_arg {r : Reach} {b0 : Nat} {v : Value} {d : DataW H} {p : List MemPlace} (hv : Value.okWide Tryz.prog w r b0 49 v) (h : DataW.Trod enc Tryz.prog w base spare held 49 v d p) : ∃ l, RowIs w v l := by
  obtain ⟨a, len, cap, rfl⟩ := okWide_slice Tryz.underlying49 hv
  obtain ⟨fuel, hf⟩ := h
  obtain ⟨v, l, e, h1⟩ := open_row hf
  simp [Value.cells] at e
  subst e
  exact ⟨l, h1⟩
/-- an argument below the old heap reads as it did -/
theorem arg_stays {t : TypeId} (hr : Tryz.prog.readableRec t = true) (hrow : t < Tryz.prog.types.size) {W W' : World} {v : Value} {d : DataW H} {ps : List MemPlace} {sp : Nat → Bool}
    (h : DataW.Trod enc Tryz.prog W 0 (fun _ => true) true t v d ps) (hb : Below W.heap.size W W') (hlt : ∀ x ∈ ps, x.block < W.heap.size) (hsp : ∀ x ∈ ps, sp x.block = true) : DataW.Trod enc Tryz.prog W' 0 sp true t v d ps :=
  WideElems.Trod_stays (by kernel_rfl) hr hrow h (fun x hx => hb.same (hlt x hx)) hsp
end
end Go.Proofs.YtmfbblcipakaiaaGreatDoor

