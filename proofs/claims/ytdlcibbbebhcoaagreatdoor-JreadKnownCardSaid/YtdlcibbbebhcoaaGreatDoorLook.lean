/- utf.Valid: the library's ValidString by its contract off the shelf; the tables that it reads. -/
import Derived.Test.YtdlcibbbebhcoaaGreatDoorLaid
import Derived.Test.YtdlcibbbebhcoaaGreatDoorBase
import Derived.IntWalk
import Derived.Carry
/-! ### utf.Valid: the library's ValidString by its contract off the shelf; the tables that it reads. -/
namespace Go.Proofs.YtdlcibbbebhcoaaGreatDoor
open Go.RowKit

/-- the library's tables, as they are laid -/
def Tabs (w : World) : Prop := Lib.Utf8Tabs (Tryz.lays197_ren.g 3) (Tryz.lays197_ren.g 4) w
theorem Tabs.old {w w' : World} (h : Tabs w) (ho : Old w w') : Tabs w' := Utf8Tabs_below h ho
/-- is a text UTF-8? -/
def vU (s : ByteArray) : Bool := Lib.validD s.data.toList

end Go.Proofs.YtdlcibbbebhcoaaGreatDoor

/-! ### tape.fits. -/
namespace Go.Proofs.YtdlcibbbebhcoaaGreatDoor
open Go.RowKit

theorem sameNd_plain (x : Nd) (z : Int) : sameNd x ⟨x.kind, x.key, 0, none_, z⟩ = (decide (x.n = 0) && decide (x.s = none_) && decide (x.size = z)) := by
  cases x
  simp [sameNd, Bool.and_assoc]
theorem str_none (s : ByteArray) : s.toList = [] ↔ s = none_ := by
  constructor
  · intro h
    exact bytes_ext (by rw [h, ByteArray.toList_eq]; rfl)
  · intro h
    rw [h, ByteArray.toList_eq]; rfl

end Go.Proofs.YtdlcibbbebhcoaaGreatDoor

/-! ### tape.look. -/
namespace Go.Proofs.YtdlcibbbebhcoaaGreatDoor
open Go.RowKit

/-- what look answers -/
def lookVal : Option Nat → Value
  | none => .tuple #[.int .i64 0, .bool false]
  | some d => .tuple #[.int .i64 d, .bool true]
/-- texts that a string may hold -/
def TextsOk (t : List Nd) : Prop := ∀ x ∈ t, x.key.size ≤ maxLen ∧ x.s.size ≤ maxLen
/-- what is always so of the holders that are open -/
def Good (n k : Nat) (S : List Hold) : Prop := S.length ≤ k + 1 ∧ (∀ h ∈ S, h.fin ≤ n ∧ h.had.length ≤ k) ∧ ∃ S0 b, S = S0 ++ [b] ∧ b.fin = n
theorem Good.cons {n k : Nat} {S : List Hold} (h : Good n k S) : ∃ h0 S0, S = h0 :: S0 := by
  obtain ⟨_, _, S0, b, rfl, _⟩ := h
  cases S0 with
  | nil => exact ⟨b, [], rfl⟩
  | cons x S0 => exact ⟨x, S0 ++ [b], rfl⟩
theorem Good.pop {n k : Nat} {h : Hold} {S : List Hold} (g : Good n k (h :: S)) (hf : h.fin < n) : Good n k S := by
  obtain ⟨h1, h2, S0, b, h3, h4⟩ := g
  refine ⟨by simp at h1; omega, fun x hx => h2 x (by simp [hx]), ?_⟩
  cases S0 with
  | nil =>
    simp at h3
    rw [h3.1] at hf
    omega
  | cons x S0 =>
    simp at h3
    exact ⟨S0, b, h3.2, h4⟩
theorem Good.start (n : Nat) : Good n 0 [⟨false, n, []⟩] := ⟨by simp, by simp, [], _, rfl, rfl⟩
def lenOf : Value → Nat
  | .slice _ n _ => n
  | _ => 0
theorem popAll_else {i : Nat} {h : Hold} {S : List Hold} (hi : h.fin ≠ i) : popAll i (h :: S) = h :: S := by rw [popAll, if_neg hi]
theorem look_step {x : Nd} {r : List Nd} {S S' : List Hold} {h : Hold} {i d : Nat} (hp : popAll i S = h :: S') : lookGo vU (x :: r) S i d = if nodeB vU h i x then lookGo vU r (pushed h S' i x) (i + 1) (max d (S'.length + 1)) else none := by
  rw [lookGo, hp]
theorem pushed_hold {h : Hold} {S : List Hold} {i : Nat} {x : Nd} (hk : 6 ≤ x.kind) : pushed h S i x = ⟨decide (x.kind = 7), i + x.size.toNat, []⟩ :: h.add x.key :: S := by unfold pushed; rw [if_pos hk]
theorem pushed_leaf {h : Hold} {S : List Hold} {i : Nat} {x : Nd} (hk : ¬ 6 ≤ x.kind) : pushed h S i x = h.add x.key :: S := by unfold pushed; rw [if_neg hk]
theorem good_step {n k : Nat} {h : Hold} {S : List Hold} {x : Nd} (g : Good n k (h :: S)) (hn : nodeB vU h k x = true) : Good n (k + 1) (pushed h S k x) := by
  unfold nodeB at hn
  simp only [Bool.and_eq_true, decide_eq_true_eq] at hn
  obtain ⟨⟨⟨hs1, hs2⟩, _⟩, _⟩ := hn
  obtain ⟨g1, g2, S0, b, g3, g4⟩ := g
  have hfin := (g2 h (by simp)).1
  have hadd : ∀ y ∈ h.add x.key :: S, y.fin ≤ n ∧ y.had.length ≤ k + 1 := by
    intro y hy
    rcases List.mem_cons.1 hy with rfl | hy
    · refine ⟨by rw [add_fin]; exact hfin, ?_⟩
      have := (g2 h (by simp)).2
      unfold Hold.add
      split
      · simp; omega
      · omega
    · have := g2 y (by simp [hy])
      exact ⟨this.1, by omega⟩
  have hbot : ∃ S0 b, h.add x.key :: S = S0 ++ [b] ∧ b.fin = n := by
    cases S0 with
    | nil =>
      simp at g3
      exact ⟨[], h.add x.key, by simp [g3.2], by rw [add_fin, g3.1, g4]⟩
    | cons y S0 =>
      simp at g3
      exact ⟨h.add x.key :: S0, b, by rw [g3.2]; rfl, g4⟩
  simp only [List.length_cons] at g1
  by_cases hk : 6 ≤ x.kind
  · rw [pushed_hold hk]
    refine ⟨by simp only [List.length_cons]; omega, fun y hy => ?_, ?_⟩
    · rcases List.mem_cons.1 hy with rfl | hy
      · exact ⟨by simp only; omega, by simp⟩
      · exact hadd y hy
    · obtain ⟨S1, b1, e1, e2⟩ := hbot
      exact ⟨_ :: S1, b1, by rw [e1]; rfl, e2⟩
  · rw [pushed_leaf hk]
    exact ⟨by simp only [List.length_cons]; omega, hadd, hbot⟩
theorem add_list {h : Hold} (ho : h.obj = false) (k : ByteArray) : h.add k = h := by unfold Hold.add; rw [ho]; rfl
theorem kind_list {h : Hold} (ho : h.obj = false) : h.kind = 6 := by unfold Hold.kind; rw [ho]; rfl
theorem kind_obj {h : Hold} (ho : h.obj = true) : h.kind = 7 := by unfold Hold.kind; rw [ho]; rfl
theorem grown_cell {w w' : World} {row : Option Nat} {p : Addr} {v : Value} (hg : w.grownBy w' row) (hc : w.cell? p = some v) (hne : some p.block ≠ row) : w'.cell? p = some v := by
  have hlt := World.block_lt_of_cell? w p hc
  unfold World.cell? at *
  rw [hg.block _ hlt hne]
  exact hc
theorem keys_ne {w : World} {b c j : Nat} {had : List ByteArray} {v : Value} (k : Keys w b had) (hc : w.cell? ⟨c, j, none⟩ = some v) : some c ≠ some b := by
  intro e
  injection e with e
  subst e
  obtain ⟨D, ⟨es, clock, h2, _⟩, _⟩ := k
  simp [World.cell?, h2] at hc
theorem grown_old {w w1 w2 : World} {b : Nat} (h : Old w w1) (hg : w1.grownBy w2 (some b)) (hb : w.heap.size ≤ b) : Old w w2 :=
  h.grown hg h.size fun k hk => by injection hk with hk; subst hk; exact hb
theorem wpList_look_keysC {ops : Array Oper} {rest : List Oper} {o : Oper} {a : Act} {Q : Exit → Act → World → Prop} (w : World) (hg : o.guard = none) (m x : Operand) (t : TypeId) (hop : o.op = Op.lookup t m x true) (ht : Tryz.prog.underlying t = some (.map 9 3))
    (b : Nat) (had : List ByteArray) (hm : a.eval m = .map (some b)) (hk : Keys w b had) (s : ByteArray) (hx : a.eval x = .string s) (hs : s.size ≤ maxLen) (B : Bool) (hB : hasKey had s = B)
    (hK : ∀ c : Int, wpList Tryz.prog ops Q rest (a.put o.dst (.tuple #[.int .i64 c, .bool B])) w) : wpList Tryz.prog ops Q (o :: rest) a w := by
  subst hB
  exact wpList_look_keys w hg m x t hop ht b had hm hk s hx hs hK
theorem nodeB_yes {h : Hold} {k : Nat} {x : Nd} (h1 : ¬ x.size < 1) (h2 : x.size ≤ (h.fin : Int) - k) (h3 : fitsB vU x = true) (h4 : keyB vU h x.key = true) : nodeB vU h k x = true := by
  unfold nodeB
  simp [h3, h4]
  omega
theorem nodeB_key {h : Hold} {k : Nat} {x : Nd} (h4 : keyB vU h x.key = false) : ¬ nodeB vU h k x = true := by
  unfold nodeB
  simp [h4]
theorem nodeB_fits {h : Hold} {k : Nat} {x : Nd} (h4 : fitsB vU x = false) : ¬ nodeB vU h k x = true := by
  unfold nodeB
  simp [h4]
theorem nodeB_small {h : Hold} {k : Nat} {x : Nd} (h4 : x.size < 1) : ¬ nodeB vU h k x = true := by
  unfold nodeB
  simp
  intros
  omega
theorem nodeB_great {h : Hold} {k : Nat} {x : Nd} (h4 : (h.fin : Int) - k < x.size) : ¬ nodeB vU h k x = true := by
  unfold nodeB
  simp
  intros
  omega
theorem look_no_size {t : List Nd} {x : Nd} {r : List Nd} (h : t = x :: r) (hx : ¬ (x.key = none_ ∧ x.size = t.length)) : lookOf vU t = none := by
  subst h
  unfold lookOf
  simp only
  rw [if_neg hx]
end Go.Proofs.YtdlcibbbebhcoaaGreatDoor
