/- Spoil, with what it changes told to the block. -/
import Derived.Test.YtmfbblcipakaiaaGreatDoorGrpG
import Derived.Test.YtmfbblcipakaiaaGreatDoorSame
import Derived.Deep.DeepCutAuto
import Derived.Deep.CutBlock
import Derived.Test.YtmfbblcipakaiaaGreatDoorGrpDt
import Derived.Test.YtmfbblcipakaiaaGreatDoorGrpZ
import Derived.Test.YtmfbblcipakaiaaGreatDoorGrpC
/-! ### Spoil, with what it changes told to the block. -/
namespace Go.Proofs.YtmfbblcipakaiaaGreatDoor
open Go.RowKit

set_option maxRecDepth 100000 in
set_option maxHeartbeats 1000000 in
theorem spoil_in (lo : Nat) (v : Value) (l : List Item) (w0 w : World) (hl : ItemsT 60 65 lo w0 v l) (hk : Kin lo w0 w) :
    Calls Tryz.prog 17 #[v] w fun e w' => e = .returned (.tuple #[]) ∧ Spx lo w0.heap.size w0 w w' := by
  obtain ⟨vs, hvl, ⟨A, ca, rfl, hla, hma, hb⟩, hrows⟩ := hl
  unfold maxLen at hma
  have HB := hide hb
  have HR := hide hrows
  clear hb hrows
  have h0 : Spx lo w0.heap.size w0 w w := ⟨hk, Chg.refl _ _⟩
  go_enter Tryz.func17, Tryz.ntmps17
  go_wp2_with fail
  go_loopw [2] (fun i wr => ∃ k : Nat, i = .int .i64 k ∧ k ≤ l.length ∧ Hid (Spx lo w0.heap.size w0 w wr)) (fun i _ => l.length - (intOf i).toNat)
  case atStart => exact ⟨0, rfl, by omega, hide h0⟩
  case round =>
    obtain ⟨k, rfl, hk, HS⟩ := hrel
    by_cases hlt : k < l.length
    · have hkv : k < vs.length := by omega
      obtain ⟨g1, g2⟩ := itemVals_get vs l k hlt hkv
      obtain ⟨b, off, cs, rfl, hlo, hheap, hcs⟩ := HB.out (by intro e; rw [e] at g1; simp at g1)
      obtain ⟨Ar, cr, hr, hr1, hr2, hr3⟩ := HR.out k hlt hkv
      rw [hr] at g1
      have c1 := hide (hcs _ _ g1)
      have c2 := hide (show cs[off + k * 2 + 1]? = some (.int .i64 l[k].w) by rw [Nat.add_assoc]; exact hcs _ _ g2)
      have HH := hide hheap
      have H3 := hide hr3
      unfold maxLen at hr2
      clear g1 g2 hcs hheap hr hr3
      go_wp2_with fail
      go_loopw [3] (fun j wz => ∃ m : Nat, j = .int .i64 m ∧ m ≤ l[k].row.length ∧ Hid (Spx lo w0.heap.size w0 w wz)) (fun j _ => l[k].row.length - (intOf j).toNat)
      case atStart => exact ⟨0, rfl, by omega, HS⟩
      case round =>
        obtain ⟨m, rfl, hm, HZ⟩ := hrel
        have x0 := HZ.out.kin.slice HH.out hlo c1.out
        by_cases hmt : m < l[k].row.length
        · have r0 := rowVals_get l[k].row m 0 (by omega) hmt
          have r1 := rowVals_get l[k].row m 1 (by omega) hmt
          have r2 := rowVals_get l[k].row m 2 (by omega) hmt
          obtain ⟨b2, o2, cs2, rfl, hlo2, hheap2, hcs2⟩ := H3.out (rowVals_ne (by omega))
          have q0 : cs2[o2 + m * 3]? = some (.bool l[k].row[m].null) := by have := hcs2 _ _ r0; simpa using this
          have q1 : cs2[o2 + m * 3 + 1]? = some (.int .i64 l[k].row[m].n) := by have := hcs2 _ _ r1; rw [← Nat.add_assoc] at this; simpa using this
          have q2 : cs2[o2 + m * 3 + 2]? = some (.string l[k].row[m].s) := by have := hcs2 _ _ r2; rw [← Nat.add_assoc] at this; simpa using this
          obtain ⟨⟨y0, e0⟩, f0⟩ := HZ.out.kin.some hheap2 hlo2 q0
          obtain ⟨⟨y1, e1⟩, f1⟩ := HZ.out.kin.some hheap2 hlo2 q1
          obtain ⟨⟨y2, e2⟩, f2⟩ := HZ.out.kin.some hheap2 hlo2 q2
          have HN := hide (((HZ.out.set hheap2 hlo2 (Nat.le_refl _) (by rw [q0]; simp) (.bool false)).set hheap2 hlo2 (Nat.le_refl _) (by rw [q1]; simp) (.int .i64 (-9))).set hheap2 hlo2 (Nat.le_refl _) (by rw [q2]; simp) (.string ⟨#[115, 112, 111, 105, 108, 116]⟩))
          clear r0 r1 r2 hcs2 hheap2 q0 q1 q2 H3
          go_wp2_with fail
          go_roundw
          case rel => exact ⟨m + 1, by go_num, by omega, HN⟩
          case measure => simp [intOf]; omega
        · obtain ⟨⟨y1, e1⟩, f1⟩ := HZ.out.kin.some HH.out hlo c2.out
          have HN := hide (HZ.out.set HH.out hlo (Nat.le_refl _) (by rw [c2.out]; simp) (.int .i64 (-9)))
          go_wp2_with fail
          go_roundw
          case rel => exact ⟨k + 1, by go_num, by omega, HN⟩
          case measure => simp [intOf]; omega
    · go_wp2_with fail
      exact bodyPost_end (results_none rfl _ _ _) rfl ⟨rfl, HS.out⟩

end Go.Proofs.YtmfbblcipakaiaaGreatDoor

/-! ### The document's groups, in memory. -/
namespace Go.Proofs.YtmfbblcipakaiaaGreatDoor
open Go.RowKit

structure Grp where
  key : List Cell
  count : Int
  sums : List Int
instance : Inhabited Grp := ⟨⟨[], 0, []⟩⟩
def grpVals : List (Value × Value) → List Grp → List Value
  | v :: vs, x :: xs => v.1 :: .int .i64 x.count :: v.2 :: grpVals vs xs
  | _, _ => []
theorem grpVals_length : ∀ (vs : List (Value × Value)) (l : List Grp), vs.length = l.length → (grpVals vs l).length = l.length * 3
  | [], [], _ => rfl
  | _ :: vs, _ :: l, h => by simp only [grpVals, List.length_cons]; have := grpVals_length vs l (by simpa using h); omega
theorem grpVals_get : ∀ (vs : List (Value × Value)) (l : List Grp) (i : Nat) (h : i < l.length) (h' : i < vs.length),
    (grpVals vs l)[i * 3]? = some vs[i].1 ∧ (grpVals vs l)[i * 3 + 1]? = some (.int .i64 l[i].count) ∧ (grpVals vs l)[i * 3 + 2]? = some vs[i].2
  | [], l, i, h, h' => by simp at h'
  | _ :: _, [], i, h, h' => by simp at h
  | v :: vs, x :: l, 0, _, _ => by simp [grpVals]
  | v :: vs, x :: l, i + 1, h, h' => by
    have := grpVals_get vs l i (by simpa using h) (by simpa using h')
    have e : (i + 1) * 3 = i * 3 + 3 := by omega
    rw [e]
    simpa [grpVals] using this
theorem grpVals_append : ∀ (vs : List (Value × Value)) (l : List Grp) (us : List (Value × Value)) (m : List Grp), vs.length = l.length → grpVals (vs ++ us) (l ++ m) = grpVals vs l ++ grpVals us m
  | [], [], us, m, _ => rfl
  | v :: vs, x :: l, us, m, h => by
    simp only [List.cons_append, grpVals]
    rw [grpVals_append vs l us m (by simpa using h)]
/-- groups, as they read -/
def GrpsIs (w : World) (v : Value) (gs : List Grp) : Prop :=
  ∃ vs : List (Value × Value), vs.length = gs.length ∧ Sl w v gs.length (grpVals vs gs) ∧ ∀ i, (h : i < gs.length) → (h' : i < vs.length) → RowIs w vs[i].1 gs[i].key ∧ Sl w vs[i].2 gs[i].sums.length (numVals gs[i].sums)
theorem GrpsIs.old {w w' : World} {v : Value} {gs : List Grp} (h : GrpsIs w v gs) (o : Old w w') : GrpsIs w' v gs := by
  obtain ⟨vs, h1, h2, h3⟩ := h
  exact ⟨vs, h1, h2.old o, fun i hi hi' => ⟨(h3 i hi hi').1.old o, (h3 i hi hi').2.old o⟩⟩
/-- .. in blocks of B -/
def GrpsB (B : Nat → Prop) (w : World) (v : Value) (gs : List Grp) : Prop :=
  ∃ vs : List (Value × Value), vs.length = gs.length ∧ SlB B w v gs.length (grpVals vs gs) ∧ ∀ i, (h : i < gs.length) → (h' : i < vs.length) → SlB B w vs[i].1 gs[i].key.length (rowVals gs[i].key) ∧ SlB B w vs[i].2 gs[i].sums.length (numVals gs[i].sums)
theorem GrpsB.is {B : Nat → Prop} {w : World} {v : Value} {gs : List Grp} (h : GrpsB B w v gs) : GrpsIs w v gs := by
  obtain ⟨vs, h1, h2, h3⟩ := h
  exact ⟨vs, h1, h2.sl, fun i hi hi' => ⟨(h3 i hi hi').1.sl, (h3 i hi hi').2.sl⟩⟩
theorem GrpsB.chg {B X : Nat → Prop} {w w' : World} {v : Value} {gs : List Grp} (h : GrpsB B w v gs) (c : Chg X w w') (hd : ∀ b, b < w.heap.size → B b → ¬ X b) : GrpsB B w' v gs := by
  obtain ⟨vs, h1, h2, h3⟩ := h
  exact ⟨vs, h1, h2.chg c hd, fun i hi hi' => ⟨(h3 i hi hi').1.chg c hd, (h3 i hi hi').2.chg c hd⟩⟩
theorem GrpsB.nil_ (B : Nat → Prop) (w : World) : GrpsB B w (.slice none 0 0) [] := ⟨[], rfl, SlB.nil_ w, fun i hi => absurd hi (by simp)⟩
structure HIs (w : World) (h K S : Nat) (gs : List Grp) (B : Nat → Prop) : Prop where
  c0 : w.cell? ⟨h, 0, none⟩ = some (.int .i64 K)
  c1 : w.cell? ⟨h, 1, none⟩ = some (.int .i64 S)
  l : ∃ v, w.cell? ⟨h, 2, none⟩ = some v ∧ GrpsB B w v gs
  low : ∀ b, B b → b < w.heap.size
  noh : ¬ B h
  free : ∀ i, w.frozen? ⟨h, i, none⟩ = false
theorem HIs.lt {w : World} {h K S : Nat} {gs : List Grp} {B : Nat → Prop} (H : HIs w h K S gs B) : h < w.heap.size := World.block_lt_of_cell? w _ H.c0
end Go.Proofs.YtmfbblcipakaiaaGreatDoor

/-! ### The document's find and may. -/
namespace Go.Proofs.YtmfbblcipakaiaaGreatDoor
open Go.RowKit

/-- the cells of groups, opened -/
theorem GrpsIs.open_ {w : World} {v : Value} {l : List Grp} (h : GrpsIs w v l) : ∃ (A : Option Addr) (cap : Nat) (us vs : List Value), v = .slice A l.length cap ∧ l.length ≤ cap ∧ cap ≤ maxLen ∧ l.length ≤ us.length ∧ l.length ≤ vs.length ∧
    (∀ i, (h : i < l.length) → (h' : i < us.length) → RowIs w us[i] l[i].key) ∧ (∀ i, (h : i < l.length) → (h' : i < vs.length) → Sl w vs[i] l[i].sums.length (numVals l[i].sums)) ∧
    (l.length = 0 ∨ ∃ b off, A = some ⟨b, off, none⟩ ∧ ∀ i, (hi : i < l.length) → (hi1 : i < us.length) → (hi2 : i < vs.length) →
      w.cell? ⟨b, off + i * 3, none⟩ = some us[i] ∧ w.cell? ⟨b, off + i * 3 + 1, none⟩ = some (.int .i64 l[i].count) ∧ w.cell? ⟨b, off + i * 3 + 2, none⟩ = some vs[i]) := by
  obtain ⟨vs, h1, ⟨A, cap, rfl, h2, h3, h4⟩, h5⟩ := h
  refine ⟨A, cap, vs.map (·.1), vs.map (·.2), rfl, h2, h3, by simp; omega, by simp; omega, fun i hi hi' => ?_, fun i hi hi' => ?_, ?_⟩
  · have := (h5 i hi (by simpa using hi')).1
    simpa using this
  · have := (h5 i hi (by simpa using hi')).2
    simpa using this
  · rcases Nat.eq_zero_or_pos l.length with h0 | h0
    · exact .inl h0
    · have hne : grpVals vs l ≠ [] := by
        intro e
        have := grpVals_length vs l h1
        rw [e] at this
        simp at this
        omega
      obtain ⟨b, off, rfl, hc⟩ := h4 hne
      refine .inr ⟨b, off, rfl, fun i hi hi1 hi2 => ?_⟩
      have hv : i < vs.length := by simpa using hi1
      obtain ⟨g1, g2, g3⟩ := grpVals_get vs l i hi hv
      refine ⟨by simpa using hc _ _ g1, ?_, ?_⟩
      · have := hc _ _ g2
        rw [← Nat.add_assoc] at this
        simpa using this
      · have := hc _ _ g3
        rw [← Nat.add_assoc] at this
        simpa using this

def hasKey (l : List Grp) (k : List Cell) : Bool := l.any fun x => decide (x.key = k)
theorem hasKey_no {l : List Grp} {k : List Cell} (h : ∀ j, (hj : j < l.length) → l[j].key ≠ k) : hasKey l k = false := by
  unfold hasKey
  rw [List.any_eq_false]
  intro x hx
  obtain ⟨j, hj, rfl⟩ := List.getElem_of_mem hx
  simpa using h j hj
theorem hasKey_yes {l : List Grp} {k : List Cell} {j : Nat} (hj : j < l.length) (h : l[j].key = k) : hasKey l k = true := by
  unfold hasKey
  rw [List.any_eq_true]
  exact ⟨l[j], List.getElem_mem hj, by simpa using h⟩
def FindPost (w : World) (l : List Grp) (k : List Cell) (e : Ending) (w' : World) : Prop :=
  Old w w' ∧ ((hasKey l k = false ∧ e = .returned (.int .i64 (-1))) ∨ (hasKey l k = true ∧ ∃ j : Nat, e = .returned (.int .i64 j)))
theorem sameRow_true {a b : List Cell} (h : sameRow a b = true) : a = b := by
  simpa [sameRow] using h
theorem sameRow_ne {a b : List Cell} (h : sameRow a b = false) : a ≠ b := by
  rintro rfl
  simp [sameRow] at h
set_option maxRecDepth 100000 in
set_option maxHeartbeats 1000000 in
theorem find_run (v kv : Value) (l : List Grp) (key : List Cell) (w : World) (hl : GrpsIs w v l) (hk : RowIs w kv key) :
    Calls Tryz.prog 41 #[v, kv] w (FindPost w l key) := by
  obtain ⟨A, ca, us, vs, rfl, hla, hma, hul, hvl, hur, hvr, ha⟩ := hl.open_
  unfold maxLen at hma
  have HU := hide hur
  have HK := hide hk
  clear hur hvr hk hl
  go_enter Tryz.func41, Tryz.ntmps41
  go_wp2_with fail
  go_loopw [5] (fun i wr => ∃ k : Nat, i = .int .i64 k ∧ k ≤ l.length ∧ Hid (∀ j, (hj : j < l.length) → j < k → l[j].key ≠ key) ∧ Hid (Old w wr)) (fun i _ => l.length - (intOf i).toNat)
  case atStart => exact ⟨0, rfl, by omega, hide (fun j _ h => absurd h (by omega)), hide (Old.refl w)⟩
  case round =>
    obtain ⟨k, rfl, hk, HN, HO⟩ := hrel
    by_cases hlt : k < l.length
    · have hku : k < us.length := by omega
      have hkv : k < vs.length := by omega
      obtain ⟨b1, o1, rfl, hc1⟩ := ha.resolve_left (by omega)
      obtain ⟨x0, x1, x2⟩ := hc1 k hlt hku hkv
      have y0 := HO.out.cell x0
      have hcall := hide (eqRow us[k] kv l[k].key key wr ((HU.out k hlt hku).old HO.out) (HK.out.old HO.out))
      clear ha hc1 x0 x1 x2
      obtain ⟨T, hT⟩ : ∃ T, Hid (sameRow l[k].key key = T) := ⟨_, hide rfl⟩
      rw [hT.out] at hcall
      go_wp2_with fail
      refine hcall.out.mono ?_
      rintro e w1 ⟨rfl, h1⟩
      have H1 := hide (HO.out.trans h1)
      clear h1
      cases T
      · go_wp2_with fail
        go_roundw
        case rel => exact ⟨k + 1, by go_num, by omega, hide (fun j hj hj2 => by
          by_cases e : j = k
          · subst e; exact sameRow_ne hT.out
          · exact HN.out j hj (by omega)), H1⟩
        case measure => simp [intOf]; omega
      · go_wp2_with fail
        go_ret
        exact ⟨H1.out, .inr ⟨hasKey_yes hlt (sameRow_true hT.out), k, rfl⟩⟩
    · go_wp2_with fail
      go_ret
      exact ⟨HO.out, .inl ⟨hasKey_no (fun j hj => HN.out j hj (by omega)), rfl⟩⟩

/-! ### may -/
structure HHead (w : World) (h K S : Nat) : Prop where
  c0 : w.cell? ⟨h, 0, none⟩ = some (.int .i64 K)
  c1 : w.cell? ⟨h, 1, none⟩ = some (.int .i64 S)
theorem HHead.old {w w' : World} {h K S : Nat} (a : HHead w h K S) (o : Old w w') : HHead w' h K S := ⟨o.cell a.c0, o.cell a.c1⟩
theorem HIs.head {w : World} {h K S : Nat} {gs : List Grp} {B : Nat → Prop} (H : HIs w h K S gs B) : HHead w h K S := ⟨H.c0, H.c1⟩
theorem valB_cases {c : Cell} : (valB c = true ∧ c.s.data.toList = [] ∧ (c.null = false ∨ (c.null = true ∧ c.n = 0))) ∨ (valB c = false ∧ ((¬ c.s.data.toList = []) ∨ (c.s.data.toList = [] ∧ c.null = true ∧ ¬ c.n = 0))) := by
  unfold valB
  by_cases h1 : c.s.data.toList = []
  · by_cases h2 : c.null = true
    · by_cases h3 : c.n = 0 <;> simp [h1, h2, h3]
    · simp at h2; simp [h1, h2]
  · have h2 : c.s.data.toList.isEmpty = false := by
      cases h : c.s.data.toList with
      | nil => exact absurd h h1
      | cons a l => rfl
    exact .inr ⟨by rw [h2]; rfl, .inl h1⟩
set_option maxRecDepth 100000 in
set_option maxHeartbeats 2000000 in
theorem hmay_run (h K S : Nat) (kv vv : Value) (x : Ent) (w : World) (hg : HHead w h K S) (hk : RowIs w kv x.key) (hv : RowIs w vv x.vals) :
    Calls Tryz.prog 40 #[.pointer (some ⟨h, 0, none⟩), .agg #[kv, vv, .int .i64 x.w]] w fun e w' => e = .returned (.bool (entMay K S x)) ∧ Old w w' := by
  obtain ⟨A, ca, rfl, hla, hma, -⟩ := hk.row
  obtain ⟨B, cb, rfl, hlb, hmb, hvc⟩ := hv.row
  unfold maxLen at hma hmb
  have HG := hide hg
  clear hg hk hv
  go_enter Tryz.func40, Tryz.ntmps40
  go_wp2_with fail
  have O0 : Hid (Old w (w.alloc (.cells #[.slice A x.key.length ca, .slice B x.vals.length cb, .int .i64 x.w] 91))) := hide ((Old.refl w).alloc _)
  have q0 : Hid ((w.alloc (.cells #[.slice A x.key.length ca, .slice B x.vals.length cb, .int .i64 x.w] 91)).cell? ⟨w.heap.size, 0, none⟩ = some (.slice A x.key.length ca)) := hide (by go_simp)
  have q1 : Hid ((w.alloc (.cells #[.slice A x.key.length ca, .slice B x.vals.length cb, .int .i64 x.w] 91)).cell? ⟨w.heap.size, 1, none⟩ = some (.slice B x.vals.length cb)) := hide (by go_simp)
  obtain ⟨w1, hw1⟩ : ∃ w1, w1 = w.alloc (.cells #[.slice A x.key.length ca, .slice B x.vals.length cb, .int .i64 x.w] 91) := ⟨_, rfl⟩
  rw [← hw1] at O0 q0 q1 ⊢
  clear hw1
  obtain ⟨q, hq⟩ : ∃ q, q = w.heap.size := ⟨_, rfl⟩
  rw [← hq] at q0 q1 ⊢
  clear hq
  go_loopw [5] (fun i wr => ∃ k : Nat, i = .int .i64 k ∧ k ≤ x.vals.length ∧ Hid (∀ j, (hj : j < x.vals.length) → j < k → valB x.vals[j] = true) ∧ Hid (Old w1 wr)) (fun i _ => x.vals.length - (intOf i).toNat)
  case atStart => exact ⟨0, rfl, by omega, hide (fun j _ h => absurd h (by omega)), hide (Old.refl _)⟩
  case round =>
    obtain ⟨k, rfl, hk, HV, HO⟩ := hrel
    have y1 := HO.out.cell q1.out
    by_cases hlt : k < x.vals.length
    · obtain ⟨b1, o1, rfl, hc1⟩ := hvc.resolve_left (by omega)
      obtain ⟨x0, x1, x2⟩ := hc1 k hlt
      have z0 := HO.out.cell (O0.out.cell x0)
      have z1 := HO.out.cell (O0.out.cell x1)
      have z2 := HO.out.cell (O0.out.cell x2)
      clear hvc hc1 x0 x1 x2
      rcases valB_cases (c := x.vals[k]) with ⟨hb, h1, h2⟩ | ⟨hb, h1⟩
      · have HB := hide hb
        have h3 : x.vals[k].s.toList = [] := by rw [ByteArray.toList_eq]; exact h1
        clear hb h1
        rcases h2 with h2 | ⟨h2, h2'⟩
        all_goals
          go_wp2_with fail
          go_roundw
          case rel => exact ⟨k + 1, by go_num, by omega, hide (fun j hj hj2 => by
            by_cases e : j = k
            · subst e; exact HB.out
            · exact HV.out j hj (by omega)), hide (HO.out.alloc _)⟩
          case measure => simp [intOf]; omega
      · have HB := hide hb
        clear hb
        have hans : Hid (entMay K S x = false) := hide (by
          cases h : entMay K S x
          · rfl
          · have := (entMay_iff.1 h).2.2 _ (List.getElem_mem hlt)
            rw [HB.out] at this
            exact absurd this (by simp))
        rcases h1 with h1 | ⟨h1, h2, h3⟩
        · have h4 : ¬ x.vals[k].s.toList = [] := by rw [ByteArray.toList_eq]; exact h1
          clear h1
          go_wp2_with fail
          go_ret
          exact ⟨ret_bool hans.out.symm, (O0.out.trans HO.out).alloc _⟩
        · have h4 : x.vals[k].s.toList = [] := by rw [ByteArray.toList_eq]; exact h1
          clear h1
          have h5 : (x.vals[k].n == 0) = false := by simpa using h3
          have h6 : (x.vals[k].n != 0) = true := by simpa using h3
          go_wp2_with fail
          go_ret
          exact ⟨ret_bool hans.out.symm, (O0.out.trans HO.out).alloc _⟩
    · have hall : Hid (∀ c ∈ x.vals, valB c = true) := hide (fun c hc => by
        obtain ⟨j, hj, rfl⟩ := List.getElem_of_mem hc
        exact HV.out j hj (by omega))
      clear hvc
      go_wp2_with fail
      have h1 : ∀ p : Later wr, p.world.cell? ⟨h, 0, none⟩ = some (.int .i64 K) := fun p => p.old.cell (HO.out.cell (O0.out.cell HG.out.c0))
      have h2 : ∀ p : Later wr, p.world.cell? ⟨h, 1, none⟩ = some (.int .i64 S) := fun p => p.old.cell (HO.out.cell (O0.out.cell HG.out.c1))
      have b0 : ∀ p : Later wr, p.world.cell? ⟨q, 0, none⟩ = some (.slice A x.key.length ca) := fun p => p.old.cell (HO.out.cell q0.out)
      have b1 : ∀ p : Later wr, p.world.cell? ⟨q, 1, none⟩ = some (.slice B x.vals.length cb) := fun p => p.old.cell (HO.out.cell q1.out)
      clear y1
      by_cases e1 : x.key.length = K
      · have E1 := hide e1
        have i1 : ((x.key.length : Int) == (K : Int)) = true := by simp; omega
        clear e1
        by_cases e2 : x.vals.length = S
        · have E2 := hide e2
          have i2 : ((x.vals.length : Int) == (S : Int)) = true := by simp; omega
          clear e2
          refine region_later (by kernel_rfl) (by kernel_rfl) ?_
          repeat (go_big_quiet_step (fail))
          refine wpQuiet_nil ?_
          rintro wq ⟨⟨_, hwq⟩, rfl⟩
          go_wp2_with fail
          go_ret
          exact ⟨ret_bool (entMay_iff.2 ⟨E1.out, E2.out, hall.out⟩).symm, (O0.out.trans HO.out).trans hwq⟩
        · have E2 := hide e2
          have i2 : ((x.vals.length : Int) == (S : Int)) = false := by simp; omega
          clear e2
          refine region_later (by kernel_rfl) (by kernel_rfl) ?_
          repeat (go_big_quiet_step (fail))
          refine wpQuiet_nil ?_
          rintro wq ⟨⟨_, hwq⟩, rfl⟩
          go_wp2_with fail
          go_ret
          refine ⟨?_, (O0.out.trans HO.out).trans hwq⟩
          cases hm : entMay K S x
          · rfl
          · exact absurd (entMay_iff.1 hm).2.1 E2.out
      · have E1 := hide e1
        have i1 : ((x.key.length : Int) == (K : Int)) = false := by simp; omega
        clear e1
        refine region_later (by kernel_rfl) (by kernel_rfl) ?_
        repeat (go_big_quiet_step (fail))
        refine wpQuiet_nil ?_
        rintro wq ⟨⟨_, hwq⟩, rfl⟩
        go_wp2_with fail
        go_ret
        refine ⟨?_, (O0.out.trans HO.out).trans hwq⟩
        cases hm : entMay K S x
        · rfl
        · exact absurd (entMay_iff.1 hm).1 E1.out
end Go.Proofs.YtmfbblcipakaiaaGreatDoor

/-! ### The document's rows of groups. -/
namespace Go.Proofs.YtmfbblcipakaiaaGreatDoor
open Go.RowKit

/-- the row of a group -/
def hRow (x : Grp) : List Cell := x.key ++ numCell x.count :: x.sums.map numCell
def hOne (x : Grp) (w : Int) : List Item := if x.count = 0 then [] else [⟨hRow x, w⟩]
/-- the rows of groups, with a weight -/
def hRows (gs : List Grp) (w : Int) : List Item := gs.flatMap fun x => hOne x w
theorem hRows_next {gs : List Grp} {k : Nat} (h : k < gs.length) (w : Int) : hRows (gs.take (k + 1)) w = hRows (gs.take k) w ++ hOne gs[k] w := by
  unfold hRows
  rw [List.take_succ_eq_append_getElem h, List.flatMap_append]
  simp
theorem hRows_len (gs : List Grp) (w : Int) : (hRows gs w).length ≤ gs.length := by
  induction gs with
  | nil => simp [hRows]
  | cons x gs ih =>
    have e : hRows (x :: gs) w = hOne x w ++ hRows gs w := by simp [hRows]
    have : (hOne x w).length ≤ 1 := by unfold hOne; split <;> simp
    rw [e, List.length_append, List.length_cons]
    omega
set_option maxRecDepth 100000 in
theorem copyRow_own (v : Value) (r : List Cell) (w : World) (h : RowIs w v r) (hlen : r.length ≤ 1048576) : Calls Tryz.prog 42 #[v] w fun e w' => ∃ u, e = .returned u ∧ w'.ownsRow w.heap.size 65 3 u r.length (rowVals r) ∧ Old w w' := by
  have H := Lib.hid h
  obtain ⟨A, cap, rfl, rest⟩ := h
  clear rest
  go_enter Tryz.func42, Tryz.ntmps42
  go_wp2_with (at_builtin; refine wpList_plain rfl (fun K hK => ?_); refine step_push_row _ _ _ rfl w.heap.size (.slice none 0 0) [] rfl (World.ownsRow_nil _ _ _ _) _ r rfl H.out (by simp; omega) (Nat.le_refl _) ?_; intro v' w' own hk; refine hK _ _ ?_; clear hK)
  go_ret
  exact ⟨_, rfl, own, hk.old (Old.refl _) (Nat.le_refl _)⟩

set_option maxRecDepth 100000 in
set_option maxHeartbeats 4000000 in
theorem rows_ref (v : Value) (l : List Grp) (wt : Int) (w : World) (hl : GrpsIs w v l) (hn : l.length ≤ 1048576) (hs : ∀ x ∈ l, x.key.length ≤ 1000 ∧ x.sums.length ≤ 1000) :
    Calls Tryz.prog 45 #[v, .int .i64 wt] w fun e w' => ∃ v, e = .returned v ∧ ItemsOwn 60 65 w.heap.size w' v (hRows l wt) ∧ Old w w' := by
  obtain ⟨A, ca, us, vs, rfl, hla, hma, hul, hvl, hur, hvr, ha⟩ := hl.open_
  unfold maxLen at hma
  have HU := hide hur
  have HV := hide hvr
  have HS := hide hs
  clear hur hvr hl hs
  go_enter Tryz.func45, Tryz.ntmps45
  go_wp2_with fail
  go_loopw [5, 6] (fun o i wr => ∃ k : Nat, i = .int .i64 k ∧ k ≤ l.length ∧ Hid (ItemsOwn 60 65 w.heap.size wr o (hRows (l.take k) wt)) ∧ Hid (Old w wr)) (fun _ i _ => l.length - (intOf i).toNat)
  case atStart => exact ⟨0, rfl, by omega, hide (ItemsOwn.nil_ _), hide (Old.refl _)⟩
  case round =>
    obtain ⟨k, rfl, hk, HI, HO⟩ := hrel
    by_cases hlt : k < l.length
    · have hku : k < us.length := by omega
      have hkv : k < vs.length := by omega
      obtain ⟨b1, o1, rfl, hc1⟩ := ha.resolve_left (by omega)
      obtain ⟨x0, x1, x2⟩ := hc1 k hlt hku hkv
      have HN := hide (hRows_next hlt wt)
      have HX := hide (HS.out l[k] (List.getElem_mem hlt))
      have HUk := hide ((HU.out k hlt hku).old HO.out)
      have HVk := hide ((HV.out k hlt hkv).old HO.out)
      have hlen := hRows_len (l.take k) wt
      rw [List.length_take] at hlen
      obtain ⟨x, hx⟩ : ∃ x, Hid (l[k] = x) := ⟨_, hide rfl⟩
      obtain ⟨uk, huk⟩ : ∃ u, us[k] = u := ⟨_, rfl⟩
      obtain ⟨vk, hvk⟩ : ∃ u, vs[k] = u := ⟨_, rfl⟩
      obtain ⟨xc, hxc⟩ : ∃ c, x.count = c := ⟨_, rfl⟩
      rw [hx.out] at HN HX HUk HVk x1
      rw [huk] at HUk x0
      rw [hvk] at HVk x2
      rw [hxc] at x1
      have HXC := hide hxc
      have y0 := HO.out.cell x0
      have y1 := HO.out.cell x1
      have y2 := HO.out.cell x2
      clear ha hc1 x0 x1 x2 huk hvk hxc
      by_cases hz : xc = 0
      · subst hz
        have he : Hid (hRows (l.take (k + 1)) wt = hRows (l.take k) wt) := hide (by rw [HN.out, hOne, if_pos HXC.out, List.append_nil])
        go_wp2_with fail
        go_roundw
        case rel => exact ⟨k + 1, by go_num, by omega, hide (by rw [he.out]; exact HI.out), HO⟩
        case measure => simp [intOf]; omega
      · have hz' : (xc == 0) = false := by simpa using hz
        have he : Hid (hRows (l.take (k + 1)) wt = hRows (l.take k) wt ++ [⟨hRow x, wt⟩]) := hide (by rw [HN.out, hOne, if_neg (by rw [HXC.out]; exact hz)])
        have HC := hide (show ∀ w', Old wr w' → Calls Tryz.prog 42 #[uk] w' fun e w2 => ∃ u, e = .returned u ∧ w2.ownsRow wr.heap.size 65 3 u x.key.length (rowVals x.key) ∧ Old w' w2 from fun w' h =>
          (copyRow_own _ _ _ (HUk.out.old h) (by have := HX.out.1; omega)).mono fun e w2 ⟨u, h1, h2, h3⟩ => ⟨u, h1, own_low h2 h.size, h3⟩)
        have hkl := HX.out.1
        have hsz := HO.out.size
        have f0 : ∀ w', Old wr w' → w'.cell? ⟨b1, o1 + k * 3, none⟩ = some uk := fun w' h => h.cell y0
        have f1 : ∀ w', Old wr w' → w'.cell? ⟨b1, o1 + k * 3 + 1, none⟩ = some (.int .i64 xc) := fun w' h => h.cell y1
        clear hz
        go_wp2_with fail
        go_region_held3 (fun w' => Old wr w')
          (first | (exact Old.drew (Old.refl _)) | (exact Old.alloc (by assumption) _) | (exact Old.trans (by assumption) (by assumption)) | (exact Kept.old (by assumption) (by assumption) (Nat.le_refl _)))
          (first
            | (go_at_call 42; (with_reducible refine (HC.out _ (by assumption)).mono ?_); rintro e w1 ⟨u, rfl, hown, hb1⟩)
            | (refine step_push_row _ _ _ rfl wr.heap.size _ x.key rfl (own_old hown ((Old.refl w1).alloc _)) _ [⟨false, xc, ⟨#[]⟩⟩] rfl (one_row (by go_simp) (by go_simp) (by go_simp) (Nat.le_refl _) (by unfold maxLen; omega)) (by simp; omega) (Below.size (w := wr) (by assumption)) ?_; intro v' w2 own2 kept2)
            | (refine step_push_row _ _ _ rfl wr.heap.size _ x.key rfl hown _ [⟨false, xc, ⟨#[]⟩⟩] rfl (one_row (hb1.cell (by go_simp)) (hb1.cell (by go_simp)) (hb1.cell (by go_simp)) (Nat.le_refl _) (by unfold maxLen; omega)) (by simp; omega) (Below.size (w := wr) (by assumption)) ?_; intro v' w2 own2 kept2)
            | (fail "none"))
        all_goals
          have OW : Hid (Old wr w2) := hide (by assumption)
          have OWN := hide own2
          obtain ⟨wo, hwo⟩ : ∃ wo, wo = wr := ⟨_, rfl⟩
          subst hwo
          clear hown hb1 kept2 own2 HC f0 f1
          go_wp2_with fail
          go_loopw [7, 8] (fun r i wz => ∃ j : Nat, i = .int .i64 j ∧ j ≤ x.sums.length ∧ Hid (wz.ownsRow wo.heap.size 65 3 r (x.key ++ numCell xc :: (x.sums.take j).map numCell).length (rowVals (x.key ++ numCell xc :: (x.sums.take j).map numCell))) ∧ Hid (Old wo wz)) (fun _ i _ => x.sums.length - (intOf i).toNat)
          case atStart => exact ⟨0, rfl, by omega, by simpa [numCell] using OWN, OW⟩
          case round =>
            obtain ⟨j, rfl, hj, HW, HL⟩ := hrel
            obtain ⟨Av, cv, rfl, hv1, hv2, hv3⟩ := id HVk.out
            unfold maxLen at hv2
            have z2 := HL.out.cell y2
            by_cases hjt : j < x.sums.length
            · have g1 := numVals_get hjt
              obtain ⟨b2, o2, rfl, hc2⟩ := hv3 (by intro e; rw [e] at g1; simp at g1)
              have z3 := HL.out.cell (hc2 _ _ g1)
              obtain ⟨n, hn⟩ : ∃ n, Hid (x.sums[j] = n) := ⟨_, hide rfl⟩
              rw [hn.out] at z3
              have hsl := HX.out.2
              clear g1 hc2 hv3
              go_wp2_with (at_builtin; refine wpList_plain rfl (fun K hK => ?_); refine step_push_row _ _ _ rfl wo.heap.size _ _ rfl (own_old HW.out ((Old.refl wr).alloc _)) _ [⟨false, n, ⟨#[]⟩⟩] rfl (one_row (by go_simp) (by go_simp) (by go_simp) (Nat.le_refl _) (by unfold maxLen; omega)) (by simp; omega) (Nat.le_trans HL.out.size (by simp)) ?_; intro v' w' own hk; refine hK _ _ ?_; clear hK)
              go_roundw
              case rel => exact ⟨j + 1, by go_num, by omega, hide (by
                rw [take_snoc hjt, hn.out, List.map_append]
                have := own
                rw [List.append_assoc] at this
                exact this), hide (hk.old (HL.out.alloc _) (Nat.le_refl _))⟩
              case measure => simp [intOf]; omega
            · have hjn : j = x.sums.length := by omega
              have HW2 := hide (show wr.ownsRow wo.heap.size 65 3 u7 (hRow x).length (rowVals (hRow x)) from by
                have := HW.out
                rw [hjn, List.take_length] at this
                unfold hRow
                rw [HXC.out]
                exact this)
              obtain ⟨A7, c7, rfl, _⟩ := id (SlT.of_own HW2.out)
              have hlo := HO.out.size
              clear HW hv3
              go_wp2_with (at_builtin; refine wpList_plain rfl (fun K hK => ?_); refine step_push_item _ _ _ rfl w.heap.size _ (hRows (l.take k) wt) rfl (HI.out.old (HL.out.alloc _)) _ _ (.slice A7 (hRow x).length c7) (hRow x) wt rfl (by go_simp) (by go_simp) ((SlT.old (SlT.of_own HW2.out) ((Old.refl wr).alloc _)).mono hlo) (by omega) (Nat.le_trans hlo (HL.out.alloc _).size) ?_; intro v' w' own hk; refine hK _ _ ?_; clear hK)
              go_roundw
              case rel => exact ⟨k + 1, by go_num, by omega, hide (by rw [he.out]; exact own), hide (hk.old ((HO.out.trans HL.out).alloc _) (Nat.le_refl _))⟩
              case measure => simp [intOf]; omega
    · have hkl : k = l.length := by omega
      have h := HI.out
      rw [hkl, List.take_length] at h
      have H := hide h
      clear h
      go_wp2_with fail
      go_ret
      exact ⟨_, rfl, H.out, HO.out⟩
end Go.Proofs.YtmfbblcipakaiaaGreatDoor
