/- What an argument's reading says of it: nodes, texts, rows of nodes; the tables that are laid; the row's last step. -/
import Derived.Test.YtdlcibbbebhcoaaGreatDoorRows
import Derived.Test.YtdlcibbbebhcoaaGreatDoorChk
import Derived.Deep.Slices
import Derived.Deep.Fields
import Derived.ChangeSame
import Derived.Below
import Derived.Carry
import Derived.ProofKit
import Derived.OpenShut
import Derived.Lib.LaidU8T
import Derived.Lib.LaidIn
import Derived.PinnedBridge
import Derived.MakeChecks
import Derived.Stop.Joined
import Derived.Test.YtdlcibbbebhcoaaGreatDoorObj
import Derived.Test.YtdlcibbbebhcoaaGreatDoorJr6
import Derived.Stop.LaidErr
/-! ### What an argument's reading says of it: nodes, texts, rows of nodes; the tables that are laid; the row's last step. -/
/-! ### What an argument's reading says of it: nodes, texts, rows of nodes; the tables that are laid; the row's last step. -/
namespace Go.Proofs.YtdlcibbbebhcoaaGreatDoor
open Go.RowKit Go.ChangeShapes Go.WideShapes Go.Deep

section
variable {H : Type} {enc : TypeId × Value → H} {P : Program} {w : World} {base : Nat} {spare : Nat → Bool} {held : Bool}
/-- a slice of structs of fields of one cell each, opened -/
theorem open_slice_fields {t e : TypeId} {fs : Array Field} {fuel : Nat} {cs : List Value} {x : DataW H × List MemPlace} (ht : P.underlying t = some (.slice e)) (he : P.underlying e = some (.struct fs))
    (hone : oneCellFields P fs = true) (hC : P.cellsOf e = fs.size) (h : DataW.trod enc P w base spare held fuel t cs = some x) :
    cs = [.slice none 0 0] ∨
    ∃ (a : Addr) (len cap : Nat), cs = [.slice (some a) len cap] ∧ len ≤ cap ∧ cap ≤ maxLen ∧
      ∀ i, i < len → ∃ (n : Nat), ∀ (j : Nat) (f : Field), fs[j]? = some f → ∃ (v : Value) (y : DataW H × List MemPlace), w.cell? (a.add (i * fs.size + j)) = some v ∧ DataW.trod enc P w base spare held n f.type [v] = some y := by
  rcases open_slice ht h with h0 | ⟨a, len, cap, m, n, D, Pl, hcs, hb, hl, hm, hmm, hx, hi⟩
  · exact .inl h0.1
  · refine .inr ⟨a, len, cap, hcs, hl, hm, fun i him => ?_⟩
    obtain ⟨cs', hc, ht'⟩ := hi i (by rw [hmm]; split <;> omega)
    rw [hC] at hc
    obtain ⟨ys, n', hn', hy, hlen, hyl, hf⟩ := DataW.trod_struct he ht'
    obtain ⟨_, hcl, hat⟩ := World.cells?_some hc
    refine ⟨n', fun j f hj => ?_⟩
    obtain ⟨ho, hk⟩ := hone_of hone j f hj
    have hjl : j < fs.size := (Array.getElem?_eq_some_iff.1 hj).1
    have hcell := hat j hjl
    have hv : cs'[j]? = some (cs'[j]'(by omega)) := List.getElem?_eq_getElem (by omega)
    have h1 := hf j f hj
    rw [ho, hk] at h1
    have hone' : (cs'.drop j).take 1 = [cs'[j]'(by omega)] := by
      rw [List.drop_eq_getElem_cons (by omega)]
      rfl
    rw [hone'] at h1
    have hys : ys[j]? = some (ys[j]'(by omega)) := List.getElem?_eq_getElem (by omega)
    refine ⟨_, _, ?_, h1.trans hys⟩
    rw [← Go.Deep.add_add, hcell, hv]
theorem spot_none {w : World} {a : Addr} {v : Value} (h : w.cell? a = some v) : a.spot = none := by
  unfold World.cell? at h
  split at h
  · split at h
    · cases h
    · rename_i hs; simpa using hs
  · cases h
theorem add_spot {a : Addr} (h : a.spot = none) (n : Nat) : a.add n = ⟨a.block, a.off + n, none⟩ := by
  unfold Addr.add
  split
  · rename_i h0; subst h0; cases a; simp_all
  · rfl
end

section
variable {H : Type} {enc : TypeId × Value → H} {w : World} {base : Nat} {spare : Nat → Bool} {held : Bool}
instance : Inhabited Nd := ⟨⟨0, ⟨#[]⟩, 0, ⟨#[]⟩, 0⟩⟩
theorem open_nodes {fuel : Nat} {cs : List Value} {x : DataW H × List MemPlace} (h : DataW.trod enc Tryz.prog w base spare held fuel 25 cs = some x) : ∃ v r, cs = [v] ∧ NodesIs w v r := by
  rcases open_slice_fields Tryz.underlying25 Tryz.underlying33 (by kernel_rfl) (by kernel_rfl) h with rfl | ⟨a, len, cap, rfl, hl, hm, hf⟩
  · exact ⟨_, [], rfl, Sl.nil_ w⟩
  · have hx : ∀ i, i < len → ∃ c : Nd, w.cell? (a.add (i * 5 + 0)) = some (.int .i64 c.kind) ∧ w.cell? (a.add (i * 5 + 1)) = some (.string c.key) ∧ w.cell? (a.add (i * 5 + 2)) = some (.int .i64 c.n) ∧ w.cell? (a.add (i * 5 + 3)) = some (.string c.s) ∧ w.cell? (a.add (i * 5 + 4)) = some (.int .i64 c.size) := by
      intro i hi
      obtain ⟨n, hf⟩ := hf i hi
      obtain ⟨v0, y0, h0, t0⟩ := hf 0 _ rfl
      obtain ⟨v1, y1, h1, t1⟩ := hf 1 _ rfl
      obtain ⟨v2, y2, h2, t2⟩ := hf 2 _ rfl
      obtain ⟨v3, y3, h3, t3⟩ := hf 3 _ rfl
      obtain ⟨v4, y4, h4, t4⟩ := hf 4 _ rfl
      obtain ⟨k0, e0, _⟩ := DataW.trod_int Tryz.underlying3 t0
      obtain ⟨k1, e1, _⟩ := DataW.trod_string Tryz.underlying9 t1
      obtain ⟨k2, e2, _⟩ := DataW.trod_int Tryz.underlying2 t2
      obtain ⟨k3, e3, _⟩ := DataW.trod_string Tryz.underlying9 t3
      obtain ⟨k4, e4, _⟩ := DataW.trod_int Tryz.underlying3 t4
      injection e0 with e0
      injection e1 with e1
      injection e2 with e2
      injection e3 with e3
      injection e4 with e4
      subst e0 e1 e2 e3 e4
      exact ⟨⟨k0, k1, k2, k3, k4⟩, h0, h1, h2, h3, h4⟩
    obtain ⟨V, hV⟩ := choose_lt hx
    refine ⟨_, (List.range len).map V, rfl, some a, cap, by simp, by simpa using hl, hm, fun hne => ?_⟩
    have hlen : 0 < len := by
      rcases Nat.eq_zero_or_pos len with h0 | h0
      · subst h0; exact absurd rfl hne
      · exact h0
    have hs : a.spot = none := by
      have := (hV 0 hlen).1
      exact spot_none (a := a) (by simpa [Addr.add] using this)
    refine ⟨a.block, a.off, by cases a; simp_all, fun j u hu => ?_⟩
    have hj : j < len * 5 := by
      have := (List.getElem?_eq_some_iff.1 hu).1
      rw [ndVals_length] at this
      simpa using this
    obtain ⟨i, k, rfl, hk⟩ : ∃ i k, j = i * 5 + k ∧ k < 5 := ⟨j / 5, j % 5, by omega, by omega⟩
    have hi : i < len := by omega
    have hg := ndVals_get ((List.range len).map V) i k hk (by simpa using hi)
    rw [hg] at hu
    obtain ⟨c0, c1, c2, c3, c4⟩ := hV i hi
    rw [add_spot hs] at c0 c1 c2 c3 c4
    match k, hk, hu with
    | 0, _, hu => simp [Nd.vals] at hu; subst hu; exact c0
    | 1, _, hu => simp [Nd.vals] at hu; subst hu; exact c1
    | 2, _, hu => simp [Nd.vals] at hu; subst hu; exact c2
    | 3, _, hu => simp [Nd.vals] at hu; subst hu; exact c3
    | 4, _, hu => simp [Nd.vals] at hu; subst hu; exact c4
set_option maxRecDepth 100000 in
theorem nodes_arg {r : Reach} {b0 : Nat} {v : Value} {d : DataW H} {p : List MemPlace} (hv : Value.okWide Tryz.prog w r b0 25 v) (h : DataW.Trod enc Tryz.prog w base spare held 25 v d p) : ∃ l, NodesIs w v l := by
  obtain ⟨a, len, cap, rfl⟩ := okWide_slice Tryz.underlying25 hv
  obtain ⟨fuel, hf⟩ := h
  obtain ⟨v, l, e, h1⟩ := open_nodes hf
  simp [Value.cells] at e
  subst e
  exact ⟨l, h1⟩
/-- an argument below the old heap reads as it did -/
theorem arg_stays {t : TypeId} (hr : Tryz.prog.readableRec t = true) (hrow : t < Tryz.prog.types.size) {W W' : World} {v : Value} {d : DataW H} {ps : List MemPlace} {sp : Nat → Bool}
    (h : DataW.Trod enc Tryz.prog W 0 (fun _ => true) true t v d ps) (hb : Below W.heap.size W W') (hlt : ∀ x ∈ ps, x.block < W.heap.size) (hsp : ∀ x ∈ ps, sp x.block = true) : DataW.Trod enc Tryz.prog W' 0 sp true t v d ps :=
  WideElems.Trod_stays (by kernel_rfl) hr hrow h (fun x hx => hb.same (hlt x hx)) hsp
end

section
variable {H : Type} {enc : TypeId × Value → H} {P : Program}
theorem post_of_below {f : Func} {s : ChangeSpec} {apart fresh handsOn again : Bool} {W W' : World} {args : Array Value} {v : Value} {ds gs : List (DataW H)} {before pa pv : List MemPlace}
    (hW : DataW.Whole enc P f.params.toList s.vars apart W args.toList ds gs before)
    (hres : ∀ (b : Nat) (sp : Nat → Bool) (hd : Bool), DataW.TrodAll enc P W' b sp hd f.resultTypes.toList (v.resultList f.resultTypes.size) (s.fn H (ds ++ gs)).results [])
    (hargs : ∀ sp : Nat → Bool, (∀ p ∈ before, sp p.block = true) → DataW.TrodAll enc P W' 0 sp true f.params.toList args.toList (s.fn H (ds ++ gs)).args pa)
    (hvars : ∀ sp : Nat → Bool, (∀ p ∈ before, sp p.block = true) → DataW.TrodVars enc P W' sp s.vars (s.fn H (ds ++ gs)).vars pv)
    (hps : before = pa ++ pv) (hb : Below W.heap.size W W')
    (hok : ∀ (j : Nat) (t : TypeId) (r : Value), f.resultTypes[j]? = some t → (v.resultList f.resultTypes.size)[j]? = some r → Value.okWide P W' .any 0 t r) :
    s.post enc P f apart fresh handsOn again W args v W' := by
  have hlt : ∀ p ∈ before, p.block < W.heap.size := fun p hp => hW.lt p hp
  have hold : ∀ p ∈ before, (fun b => decide (b < W.heap.size)) p.block = true := fun p hp => by simpa using hlt p hp
  refine ⟨ds, gs, before, [], pa, pv, hW, hres _ _ _, hargs _ hold, hvars _ hold, World.keptBut_mono (fun p hp => ⟨hp, ?_⟩) (hb.frame (· ∈ before)), fun _ => ?_⟩
  · rw [hps, List.mem_append] at hp
    exact Or.inr hp
  · obtain ⟨_, _, _, _, _, hz, hn⟩ := hW
    refine ⟨hok, _, _, ([] ++ pa) ++ pv, ⟨[] ++ pa, pv, trodAll_append (hargs _ (fun _ _ => rfl)) (hres _ _ _), hvars _ (fun _ _ => rfl), rfl, ?_, ?_⟩, ?_⟩
    · intro b off hp
      have hin : MemPlace.cell b off ∈ before := by rw [hps]; simpa using hp
      rw [hb.frozen (hlt _ hin)]
      exact hz b off hin
    · intro ha
      have := hn ha
      rw [hps] at this
      simpa using this
    · intro p hp _
      rw [hps]
      simpa using hp
end


/-! ### the tables that are laid -/
theorem u8extra : U8Extra Tryz.prog Tryz.lays197_ren := ⟨by kernel_rfl, by kernel_rfl, by kernel_rfl, by kernel_rfl, by kernel_rfl, by kernel_rfl, by kernel_rfl⟩
theorem accept_eq : Rows.laid_unicode_utf8_acceptRanges = Lib.acceptData := by kernel_rfl
def laidTabs : List (String × DataW Unit) := [("unicode/utf8.acceptRanges", Rows.laid_unicode_utf8_acceptRanges), ("unicode/utf8.first", Rows.laid_unicode_utf8_first)]
theorem tabs_of_laid {W : World} (h : laidMetH Tryz.prog laidTabs W) : Tabs W := by
  rw [Go.MakeChecks.laidMetH_plain _ _ _ (by kernel_rfl)] at h
  have h4 := Lib.laidMet.reads h (.head _)
  have h3 := Lib.laidMet.reads h (.tail _ (.head _))
  rw [accept_eq] at h4
  rw [show Rows.laid_unicode_utf8_first = Lib.firstData from Pinned.utf8First_eq] at h3
  exact utf8Tabs_of_readsT ({ Tryz.lays197 with }) u8extra h3 h4
/-- the witness: the settled world, the two variables holding what their initialisers lay -/
theorem laid_met (os : Os) (args : Array Value) : laidMetH Tryz.prog laidTabs (({ World.holding Tryz.prog os ⟨#[], #[], []⟩ with
    heap := ((World.holding Tryz.prog os ⟨#[], #[], []⟩).heap.setIfInBounds (Tryz.lays197_ren.g 3) (.cells (Lib.firstTab.map fun z => Value.int .u8 z).toArray (Tryz.lays197_ren.t 119))).setIfInBounds (Tryz.lays197_ren.g 4)
      (.cells ((List.range 16).flatMap fun i => [Value.int .u8 (Lib.accLo i), Value.int .u8 (Lib.accHi i)]).toArray (Tryz.lays197_ren.t 139)) } : World).forCall (fun _ _ => 0) ⟨#[], args, []⟩).memory := by
  rw [Go.MakeChecks.laidMetH_plain _ _ _ (by kernel_rfl)]
  exact (LaidIn.of_run [Tryz.lays197_ren.g 4, Tryz.lays197_ren.g 3] 8 (by kernel_rfl) (by kernel_rfl) (by kernel_rfl) (by kernel_rfl)).met
end Go.Proofs.YtdlcibbbebhcoaaGreatDoor

/-! ### What an argument's reading says of it: texts; rows of rows of nodes. -/
namespace Go.Proofs.YtdlcibbbebhcoaaGreatDoor
open Go.RowKit Go.ChangeShapes Go.WideShapes Go.Deep

section
variable {H : Type} {enc : TypeId × Value → H} {P : Program} {w : World} {base : Nat} {spare : Nat → Bool} {held : Bool}
/-- a slice of elements of one cell each, opened -/
theorem open_slice_one {t e : TypeId} {fuel : Nat} {cs : List Value} {x : DataW H × List MemPlace} (ht : P.underlying t = some (.slice e)) (hC : P.cellsOf e = 1) (h : DataW.trod enc P w base spare held fuel t cs = some x) :
    cs = [.slice none 0 0] ∨
    ∃ (a : Addr) (len cap : Nat), cs = [.slice (some a) len cap] ∧ len ≤ cap ∧ cap ≤ maxLen ∧
      ∀ i, i < len → ∃ (n : Nat) (v : Value) (y : DataW H × List MemPlace), w.cell? (a.add i) = some v ∧ DataW.trod enc P w base spare held n e [v] = some y := by
  rcases open_slice ht h with h0 | ⟨a, len, cap, m, n, D, Pl, hcs, hb, hl, hm, hmm, hx, hi⟩
  · exact .inl h0.1
  · refine .inr ⟨a, len, cap, hcs, hl, hm, fun i him => ?_⟩
    obtain ⟨cs', hc, ht'⟩ := hi i (by rw [hmm]; split <;> omega)
    rw [hC, Nat.mul_one] at hc
    obtain ⟨_, hcl, hat⟩ := World.cells?_some hc
    have h0 := hat 0 (by omega)
    match cs', hcl, ht', h0 with
    | [v], _, ht', h0 =>
      refine ⟨_, v, _, ?_, ht'⟩
      rw [Go.Deep.add_add, Nat.add_zero] at h0
      simpa using h0
end
section
variable {H : Type} {enc : TypeId × Value → H} {w : World} {base : Nat} {spare : Nat → Bool} {held : Bool}
theorem sl_of_cells {a : Addr} {len cap : Nat} {V : Nat → Value} (hl : len ≤ cap) (hm : cap ≤ maxLen) (hV : ∀ i, i < len → w.cell? (a.add i) = some (V i)) : Sl w (.slice (some a) len cap) len ((List.range len).map V) := by
  refine ⟨some a, cap, rfl, hl, hm, fun hne => ?_⟩
  have hlen : 0 < len := by
    rcases Nat.eq_zero_or_pos len with h0 | h0
    · subst h0; exact absurd rfl hne
    · exact h0
  have hs : a.spot = none := by
    have := hV 0 hlen
    exact spot_none (a := a) (by simpa [Addr.add] using this)
  refine ⟨a.block, a.off, by cases a; simp_all, fun j u hu => ?_⟩
  have hj : j < len := by
    have := (List.getElem?_eq_some_iff.1 hu).1
    simpa using this
  have := hV j hj
  rw [add_spot hs] at this
  rw [this]
  rw [List.getElem?_map, List.getElem?_range hj] at hu
  simpa using hu
theorem open_texts {fuel : Nat} {cs : List Value} {x : DataW H × List MemPlace} (h : DataW.trod enc Tryz.prog w base spare held fuel 22 cs = some x) : ∃ v l, cs = [v] ∧ TextsIs w v l := by
  rcases open_slice_one Tryz.underlying22 (by kernel_rfl) h with rfl | ⟨a, len, cap, rfl, hl, hm, hf⟩
  · exact ⟨_, [], rfl, Sl.nil_ w⟩
  · have hx : ∀ i, i < len → ∃ s : ByteArray, w.cell? (a.add i) = some (.string s) := by
      intro i hi
      obtain ⟨n, v, y, h0, t0⟩ := hf i hi
      obtain ⟨k0, e0, _⟩ := DataW.trod_string Tryz.underlying9 t0
      injection e0 with e0
      subst e0
      exact ⟨k0, h0⟩
    obtain ⟨V, hV⟩ := choose_lt hx
    refine ⟨_, (List.range len).map V, rfl, ?_⟩
    have := sl_of_cells (V := fun i => .string (V i)) hl hm hV
    unfold TextsIs
    simpa [List.map_map, Function.comp_def] using this
set_option maxRecDepth 100000 in
theorem texts_arg {r : Reach} {b0 : Nat} {v : Value} {d : DataW H} {p : List MemPlace} (hv : Value.okWide Tryz.prog w r b0 22 v) (h : DataW.Trod enc Tryz.prog w base spare held 22 v d p) : ∃ l, TextsIs w v l := by
  obtain ⟨a, len, cap, rfl⟩ := okWide_slice Tryz.underlying22 hv
  obtain ⟨fuel, hf⟩ := h
  obtain ⟨v, l, e, h1⟩ := open_texts hf
  simp [Value.cells] at e
  subst e
  exact ⟨l, h1⟩
end
end Go.Proofs.YtdlcibbbebhcoaaGreatDoor

/-! ### The seven variables that the chapter's rows list: the tables of UTF-8, the powers of ten, the tables of bits, and the two errors of strconv. -/
namespace Go.Proofs.YtdlcibbbebhcoaaGreatDoor
open Go.RowKit Go.ChangeShapes Go.WideShapes Go.Deep

def laidSeven : List (String × DataW Unit) := [("math/bits.deBruijn32tab", Rows.laid_math_bits_deBruijn32tab), ("math/bits.deBruijn64tab", Rows.laid_math_bits_deBruijn64tab), ("internal/strconv.uint64pow10", Rows.laid_internal_strconv_uint64pow10), ("unicode/utf8.acceptRanges", Rows.laid_unicode_utf8_acceptRanges), ("strconv.ErrRange", Rows.laid_strconv_ErrRange), ("strconv.ErrSyntax", Rows.laid_strconv_ErrSyntax), ("unicode/utf8.first", Rows.laid_unicode_utf8_first)]
theorem errStar : "*" ++ "errors.errorString" = "*errors.errorString" := by decide
theorem errRow (u : TypeId) (h : Tryz.prog.typeName? 3 u = some "*errors.errorString") : u = 130 :=
  typeName_ptr_named (nm := "errors.errorString") (by rw [errStar]; kernel_rfl) (by kernel_rfl) (by decide) u (by rw [errStar]; exact h)
theorem seven_laid {W : World} (h : laidMetH Tryz.prog laidSeven W) : Tabs W ∧ Errs W := by
  rw [Go.MakeChecks.laidMetH_plain _ _ _ (by kernel_rfl)] at h
  have h4 := Lib.laidMet.reads h (.tail _ (.tail _ (.tail _ (.head _))))
  have h3 := Lib.laidMet.reads h (.tail _ (.tail _ (.tail _ (.tail _ (.tail _ (.tail _ (.head _)))))))
  rw [accept_eq] at h4
  rw [show Rows.laid_unicode_utf8_first = Lib.firstData from Pinned.utf8First_eq] at h3
  have t4 : laidMet Tryz.prog [("strconv.ErrRange", Rows.laid_strconv_ErrRange), ("strconv.ErrSyntax", Rows.laid_strconv_ErrSyntax), ("unicode/utf8.first", Rows.laid_unicode_utf8_first)] W := laidMet.tail (laidMet.tail (laidMet.tail (laidMet.tail h)))
  obtain ⟨a1, s1, e1, _⟩ := laid_sentinel t4 (g := 4) (ti := 51) (tp := 130) (te := 132) (ts := 9) (by kernel_rfl) (by kernel_rfl) Tryz.underlying51 errRow Tryz.underlying130 Tryz.underlying132 rfl rfl Tryz.underlying9 (by kernel_rfl) (by kernel_rfl)
  obtain ⟨a2, s2, e2, _⟩ := laid_sentinel (laidMet.tail t4) (g := 3) (ti := 51) (tp := 130) (te := 132) (ts := 9) (by kernel_rfl) (by kernel_rfl) Tryz.underlying51 errRow Tryz.underlying130 Tryz.underlying132 rfl rfl Tryz.underlying9 (by kernel_rfl) (by kernel_rfl)
  exact ⟨utf8Tabs_of_readsT ({ Tryz.lays197 with }) u8extra h3 h4, ⟨_, _, e2⟩, _, _, e1⟩
def litCells : List (DataW Unit) → List Value
  | [] => []
  | .lit (.int k z) :: l => .int k z :: litCells l
  | _ :: l => litCells l
def aggCells : DataW Unit → List Value
  | .agg l => litCells l
  | _ => []
abbrev rangeS : ByteArray := ⟨#[118, 97, 108, 117, 101, 32, 111, 117, 116, 32, 111, 102, 32, 114, 97, 110, 103, 101]⟩
abbrev syntaxS : ByteArray := ⟨#[105, 110, 118, 97, 108, 105, 100, 32, 115, 121, 110, 116, 97, 120]⟩
/-- the witness: the settled world, the variables holding what their initialisers lay -/
theorem seven_met (os : Os) (args : Array Value) : laidMetH Tryz.prog laidSeven (({ World.holding Tryz.prog os ⟨#[.cells #[.string rangeS] 132, .cells #[.string syntaxS] 132], #[], []⟩ with
    heap := (((((((World.holding Tryz.prog os ⟨#[.cells #[.string rangeS] 132, .cells #[.string syntaxS] 132], #[], []⟩).heap.setIfInBounds 1 (.cells (Lib.firstTab.map fun z => Value.int .u8 z).toArray (Tryz.lays197_ren.t 119))).setIfInBounds 2
      (.cells ((List.range 16).flatMap fun i => [Value.int .u8 (Lib.accLo i), Value.int .u8 (Lib.accHi i)]).toArray (Tryz.lays197_ren.t 139))).setIfInBounds 5 (.cells (aggCells Rows.laid_internal_strconv_uint64pow10).toArray 141)).setIfInBounds 6 (.cells (aggCells Rows.laid_math_bits_deBruijn32tab).toArray 146)).setIfInBounds 7 (.cells (aggCells Rows.laid_math_bits_deBruijn64tab).toArray 147)).setIfInBounds 4 (.cells #[.iface 130 (.pointer (some ⟨(World.holding Tryz.prog os ⟨#[], #[], []⟩).heap.size, 0, none⟩))] 51)).setIfInBounds 3 (.cells #[.iface 130 (.pointer (some ⟨(World.holding Tryz.prog os ⟨#[], #[], []⟩).heap.size + 1, 0, none⟩))] 51) } : World).forCall (fun _ _ => 0) ⟨#[], args, []⟩).memory := by
  rw [Go.MakeChecks.laidMetH_plain _ _ _ (by kernel_rfl)]
  exact (LaidIn.of_run [1, 2, 5, 6, 7, 4, 3, (World.holding Tryz.prog os ⟨#[], #[], []⟩).heap.size, (World.holding Tryz.prog os ⟨#[], #[], []⟩).heap.size + 1] 8 (by kernel_rfl) (by kernel_rfl) (by kernel_rfl) (by kernel_rfl)).met
end Go.Proofs.YtdlcibbbebhcoaaGreatDoor
