/-  -/
import Derived.WalkKit
import Derived.WalkSpells
import Derived.WalkLawsBesides
import Derived.Deep.QuietTactic
import Derived.BigQuiet
import Derived.Lib.Hide
/-! ###  -/
namespace Go.Proofs.YthlfljmfggmfdaaGreatDoor
open Go.RowKit
abbrev Old (w w' : World) : Prop := Below w.heap.size w w'
theorem Old.refl (w : World) : Old w w := Below.refl _ _
theorem Old.trans {a b c : World} (h : Old a b) (k : Old b c) : Old a c := Below.trans h (Below.mono k h.size)
theorem Old.cell {w w' : World} (h : Old w w') {p : Addr} {v : Value} (hc : w.cell? p = some v) : w'.cell? p = some v :=
 (Below.cell h (World.block_lt_of_cell? w p hc)).trans hc
theorem Old.frozen {w w' : World} (h : Old w w') {p : Addr} {v : Value} (hc : w.cell? p = some v) {f : Bool} (hf : w.frozen? p = f) : w'.frozen? p = f :=
 (Below.frozen h (World.block_lt_of_cell? w p hc)).trans hf
theorem block_lt {w : World} {b : Nat} {o : Obj} (h : w.heap[b]? = some o) : b < w.heap.size := (Array.getElem?_eq_some_iff.1 h).1
theorem Old.heap {w w' : World} (h : Old w w') {b : Nat} {o : Obj} (hb : w.heap[b]? = some o) : w'.heap[b]? = some o :=
 (h.block b (block_lt hb)).trans hb
theorem Old.setCell {a b : World} (h : Old a b) {p : Addr} (hp : a.heap.size ≤ p.block) (u : Value) : Old a (b.setCell p u) := Below.setCell h hp u
theorem Old.alloc {a b : World} (h : Old a b) (o : Obj) : Old a (b.alloc o) := Below.alloc h h.size o
theorem Old.drew {a b : World} (h : Old a b) : Old a b.drew := Below.drew h
theorem Old.drewN {w w' : World} (h : Old w w') (n : Nat) : Old w (w'.drewN n) := ⟨h.os, h.tape, h.output, h.size, h.block⟩
def Sl (w : World) (v : Value) (n : Nat) (xs : List Value) : Prop :=
 ∃ A cap, v = .slice A n cap ∧ n ≤ cap ∧ cap ≤ maxLen ∧
  (xs ≠ [] → ∃ b off, A = some ⟨b, off, none⟩ ∧ ∀ j u, xs[j]? = some u → w.cell? ⟨b, off + j, none⟩ = some u)
def SlT (T : TypeId) (lo : Nat) (w : World) (v : Value) (n : Nat) (xs : List Value) : Prop :=
 ∃ A cap, v = .slice A n cap ∧ n ≤ cap ∧ cap ≤ maxLen ∧
  (xs ≠ [] → ∃ b off cs, A = some ⟨b, off, none⟩ ∧ lo ≤ b ∧ w.heap[b]? = some (.cells cs T (0, 0)) ∧ ∀ j u, xs[j]? = some u → cs[off + j]? = some u)
theorem cell_of_heap {w : World} {b i : Nat} {cs : Array Value} {T : TypeId} {f : Nat × Nat} (h : w.heap[b]? = some (.cells cs T f)) : w.cell? ⟨b, i, none⟩ = cs[i]? := by
 simp [World.cell?, h]
theorem free_of_heap {w : World} {b i : Nat} {cs : Array Value} {T : TypeId} (h : w.heap[b]? = some (.cells cs T (0, 0))) : w.frozen? ⟨b, i, none⟩ = false := by
 simp [World.frozen?, h]
section
variable {w w' : World} {v : Value} {n lo T : Nat} {xs : List Value}
theorem SlT.sl (h : SlT T lo w v n xs) : Sl w v n xs := by
 obtain ⟨A, cap, rfl, h1, h2, h3⟩ := h
 refine ⟨A, cap, rfl, h1, h2, fun hx => ?_⟩
 obtain ⟨b, off, cs, rfl, _, hh, hc⟩ := h3 hx
 exact ⟨b, off, rfl, fun j u hu => (cell_of_heap hh).trans (hc j u hu)⟩
theorem Sl.old (h : Sl w v n xs) (hb : Old w w') : Sl w' v n xs := by
 obtain ⟨A, cap, rfl, h1, h2, h3⟩ := h
 refine ⟨A, cap, rfl, h1, h2, fun hx => ?_⟩
 obtain ⟨b, off, rfl, hc⟩ := h3 hx
 exact ⟨b, off, rfl, fun j u hu => hb.cell (hc j u hu)⟩
theorem SlT.old (h : SlT T lo w v n xs) (hb : Old w w') : SlT T lo w' v n xs := by
 obtain ⟨A, cap, rfl, h1, h2, h3⟩ := h
 refine ⟨A, cap, rfl, h1, h2, fun hx => ?_⟩
 obtain ⟨b, off, cs, rfl, hl, hh, hc⟩ := h3 hx
 exact ⟨b, off, cs, rfl, hl, hb.heap hh, hc⟩
theorem SlT.mono {lo' : Nat} (h : SlT T lo w v n xs) (hl : lo' ≤ lo) : SlT T lo' w v n xs := by
 obtain ⟨A, cap, rfl, h1, h2, h3⟩ := h
 refine ⟨A, cap, rfl, h1, h2, fun hx => ?_⟩
 obtain ⟨b, off, cs, rfl, hl', hh, hc⟩ := h3 hx
 exact ⟨b, off, cs, rfl, Nat.le_trans hl hl', hh, hc⟩
theorem SlT.grown {row : Option Nat} (h : SlT T lo w v n xs) (hg : w.grownBy w' row)
 (hne : ∀ g, row = some g → ∃ cs T' f, w.heap[g]? = some (.cells cs T' f) ∧ T' ≠ T) : SlT T lo w' v n xs := by
 obtain ⟨A, cap, rfl, h1, h2, h3⟩ := h
 refine ⟨A, cap, rfl, h1, h2, fun hx => ?_⟩
 obtain ⟨b, off, cs, rfl, hl, hh, hc⟩ := h3 hx
 refine ⟨b, off, cs, rfl, hl, ?_, hc⟩
 rw [hg.block b (block_lt hh) ?_]
 · exact hh
 · intro e
   obtain ⟨cs', T', f, hh', hne'⟩ := hne b e.symm
   rw [hh] at hh'
   injection hh' with hh'
   injection hh' with _ hT _
   exact hne' hT.symm
theorem Sl.nil_ (w : World) : Sl w (.slice none 0 0) 0 [] := ⟨none, 0, rfl, Nat.le_refl _, Nat.zero_le _, fun h => absurd rfl h⟩
theorem SlT.nil_ (w : World) : SlT T lo w (.slice none 0 0) 0 [] := ⟨none, 0, rfl, Nat.le_refl _, Nat.zero_le _, fun h => absurd rfl h⟩
theorem SlT.of_own {base size : Nat} (h : w.ownsRow base T size v n xs) : SlT T base w v n xs := by
 obtain ⟨hl, h2⟩ := h
 rcases h2 with ⟨rfl, rfl⟩ | ⟨g, cap, cur, rfl, hb, hh, hn, hm, hs, ht⟩
 · exact ⟨none, 0, rfl, Nat.le_refl _, Nat.zero_le _, fun hx => absurd (List.eq_nil_of_length_eq_zero (by simpa using hl)) hx⟩
 · refine ⟨some ⟨g, 0, none⟩, cap, rfl, hn, hm, fun _ => ⟨g, 0, cur, rfl, hb, hh, fun j u hu => ?_⟩⟩
   rw [← ht, List.getElem?_take] at hu
   split at hu
   · simpa using hu
   · cases hu
theorem own_old {base size : Nat} (h : w.ownsRow base T size v n xs) (hb : Old w w') : w'.ownsRow base T size v n xs := by
 obtain ⟨hl, h2⟩ := h
 refine ⟨hl, ?_⟩
 rcases h2 with h2 | ⟨g, cap, cur, rfl, hb', hh, r⟩
 · exact .inl h2
 · exact .inr ⟨g, cap, cur, rfl, hb', hb.heap hh, r⟩
theorem own_block {base size : Nat} (h : w.ownsRow base T size v n xs) : ∀ g, v.ownBlock = some g → ∃ cs T' f, w.heap[g]? = some (.cells cs T' f) ∧ T' = T := by
 intro g hg
 rcases h.2 with ⟨rfl, _⟩ | ⟨g', cap, cur, rfl, _, hh, _⟩
 · simp [Value.ownBlock] at hg
 · simp [Value.ownBlock] at hg
   subst hg
   exact ⟨cur, T, _, hh, rfl⟩
end
structure Later (w : World) where
 world : World
 old : Old w world
instance (w : World) : Nonempty (Later w) := ⟨⟨w, Old.refl w⟩⟩
theorem region_later {P : Program} {id : Nat} {Q : Exit → Act → World → Prop} {a : Act} {w : World} {l : List Oper} (hm : P.follows .mixedOrders = true) (hB : Region.lexB .any l.toArray = true)
 (h : wpQuiet P l.toArray (fun w' => ∃ p : Later w, w' = p.world) (fun a' => ∀ w', (∃ p : Later w, w' = p.world) → Q .normal a' w') l a) : (Code.region id l.toArray true).wp P Q a w :=
 wp_region_quiet (C := fun w' => ∃ p : Later w, w' = p.world) hm hB ⟨⟨w.drew, (Old.refl w).drew⟩, rfl⟩ (by simpa using h)
theorem Later.call {P : Program} {f : FuncId} {args : Array Value} {w : World} {p : Later w} {v : Value}
 (h : Calls P f args p.world fun e w' => e = .returned v ∧ Old p.world w') : Calls P f args p.world fun e w'' => e = .returned v ∧ ∃ p' : Later w, w'' = p'.world :=
 h.mono fun _ w' ⟨he, hw⟩ => ⟨he, ⟨w', Old.trans p.old hw⟩, rfl⟩
structure Grew (w w' : World) : Prop where
 old : Below w.heap.size w w'
 drawn : w.drawn ≤ w'.drawn
theorem Grew.refl (w : World) : Grew w w := ⟨Below.refl _ _, Nat.le_refl _⟩
theorem Grew.trans {a b c : World} (h : Grew a b) (k : Grew b c) : Grew a c := ⟨Old.trans h.old k.old, Nat.le_trans h.drawn k.drawn⟩
theorem Grew.drew {a b : World} (h : Grew a b) : Grew a b.drew := ⟨h.old.drew, Nat.le_trans h.drawn (Nat.le_succ _)⟩
theorem Grew.drewN {a b : World} (h : Grew a b) (n : Nat) : Grew a (b.drewN n) := ⟨Old.drewN h.old n, Nat.le_trans h.drawn (Nat.le_add_right _ _)⟩
theorem Grew.alloc {a b : World} (h : Grew a b) (o : Obj) : Grew a (b.alloc o) := ⟨h.old.alloc h.old.size o, h.drawn⟩
theorem Grew.setCell {a b : World} (h : Grew a b) {p : Addr} (hp : a.heap.size ≤ p.block) (u : Value) : Grew a (b.setCell p u) := ⟨h.old.setCell hp u, h.drawn⟩
theorem Grew.cell {w w' : World} (h : Grew w w') {p : Addr} {v : Value} (hc : w.cell? p = some v) : w'.cell? p = some v := Old.cell h.old hc
structure LaterG (w : World) where
 world : World
 grew : Grew w world
instance (w : World) : Nonempty (LaterG w) := ⟨⟨w, Grew.refl w⟩⟩
theorem LaterG.call {P : Program} {f : FuncId} {args : Array Value} {w : World} {p : LaterG w} {v : Value}
 (h : Calls P f args p.world fun e w' => e = .returned v ∧ Grew p.world w') : Calls P f args p.world fun e w'' => e = .returned v ∧ ∃ p' : LaterG w, w'' = p'.world :=
 h.mono fun _ w' ⟨he, hw⟩ => ⟨he, ⟨w', Grew.trans p.grew hw⟩, rfl⟩
end Go.Proofs.YthlfljmfggmfdaaGreatDoor
