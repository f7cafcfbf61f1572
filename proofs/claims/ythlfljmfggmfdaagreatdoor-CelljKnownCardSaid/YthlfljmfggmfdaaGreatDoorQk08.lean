/-  -/
import Derived.Test.YthlfljmfggmfdaaGreatDoorQk02
import Derived.Test.YthlfljmfggmfdaaGreatDoorQk03
import Derived.Deep.RegionHeld3
import Derived.Test.YthlfljmfggmfdaaGreatDoorQk06
import Derived.Test.YthlfljmfggmfdaaGreatDoorQk07
import Derived.Lib.DecodeN
/-! ###  -/
namespace Go.Proofs.YthlfljmfggmfdaaGreatDoor
open Go.RowKit
theorem cellInfo : (Tryz.prog.info? 38).map (fun i => (i.zero, i.size, i.bytes)) = some (some (.agg #[.bool false, .int .i64 0, .string ⟨#[]⟩]), 3, 32) := by kernel_rfl
theorem step_push_row {o : Oper} {a : Act} {K : Act → World → Prop} {Q : Exit → Act → World → Prop} (w : World) (s x : Operand)
 (ho : o.op = .call { callee := .builtin .append, args := #[s, x], argTypes := #[23, 23] })
 (base : Nat) (v : Value) (r : List Cell) (hs : a.eval s = v) (hown : w.ownsRow base 38 3 v r.length (rowVals r))
 (xv : Value) (q : List Cell) (hev : a.eval x = xv) (hx : RowIs w xv q) (hlen : r.length + q.length ≤ 4194304) (hbase : base ≤ w.heap.size)
 (h : ∀ v' w', w'.ownsRow base 38 3 v' (r ++ q).length (rowVals (r ++ q)) → Kept 38 base w w' → K (a.put o.dst v') w') : o.wp Tryz.prog a w K Q := by
 obtain ⟨i0, hi, hz0, hz1, hz2⟩ := info_parts cellInfo
 refine wp_append_sl w s x 23 ho base 38 i0 _ 3 32 Tryz.underlying23 hi hz0 hz1 hz2 rfl (by omega) v r.length (rowVals r) hs hown
  xv q.length (rowVals q) hev hx (rowVals_length q) (rowVals_cell q) (by unfold maxLen; omega) (by omega) hbase ?_
 intro v' w' own' hg
 refine h v' w' ?_ (Kept.of_grown hown hg hbase)
 rw [rowVals_append, List.length_append]
 exact own'
theorem cellGuard : Tryz.prog.eqGuardType Tryz.prog.depth 38 = false := by kernel_rfl
theorem cellStood : Tryz.prog.stoodInHeld 38 = false := by kernel_rfl
theorem cellFields : Tryz.prog.underlying 38 = some (.struct (Tryz.prog.fieldsOf 38)) := by kernel_rfl
def neCell (a b : Cell) : Bool := !decide (a = b)
theorem neCell_false {a b : Cell} : neCell a b = false ↔ a = b := by simp [neCell]
theorem neq_cell (a b : Cell) (w : World) : (binOp .neq 38 (.agg #[.bool a.null, .int .i64 a.n, .string a.s]) (.agg #[.bool b.null, .int .i64 b.n, .string b.s])).run Tryz.prog w = .ok (.bool (neCell a b)) w := by
 rw [run_neq_struct, run_equalIn_agg _ _ _ _ _ cellFields cellStood]
 simp only [Program.fieldsOf, Tryz.underlying38]
 obtain ⟨an, ai, aS⟩ := a
 obtain ⟨bn, bi, bS⟩ := b
 simp [go_sem, neCell]
 by_cases h1 : an = bn
 · by_cases h2 : ai = bi
   · by_cases h3 : aS = bS
     · subst h3; simp [h1, h2]
     · have h4 : ¬ aS.toList = bS.toList := fun h => h3 (bytesD_ext (by rw [← ByteArray.toList_eq, ← ByteArray.toList_eq, h]))
       simp [h1, h2, h3, h4]
   · simp [h1, h2]
 · simp [h1]
def sameRow (a b : List Cell) : Bool := decide (a = b)
theorem sameRow_len {a b : List Cell} (h : a.length ≠ b.length) : sameRow a b = false := by
 simp only [sameRow, decide_eq_false_iff_not]; intro e; exact h (by rw [e])
theorem sameRow_at {a b : List Cell} {k : Nat} (ha : k < a.length) (hb : k < b.length) (h : neCell a[k] b[k] = true) : sameRow a b = false := by
 simp only [sameRow, decide_eq_false_iff_not]
 rintro rfl
 simp [neCell] at h
theorem sameRow_end {a b : List Cell} (hl : a.length = b.length) (h : ∀ j : Nat, j < a.length → a[j]? = b[j]?) : sameRow a b = true := by
 simp only [sameRow, decide_eq_true_eq]
 apply List.ext_getElem?
 intro j
 rcases Nat.lt_or_ge j a.length with h1 | h1
 · exact h j h1
 · rw [List.getElem?_eq_none h1, List.getElem?_eq_none (by omega)]
theorem row_next {a b : List Cell} {k : Nat} (ha : k < a.length) (hb : k < b.length) (h : ∀ j : Nat, j < k → a[j]? = b[j]?) (hc : neCell a[k] b[k] = false) : ∀ j : Nat, j < k + 1 → a[j]? = b[j]? := by
 intro j hj
 rcases Nat.lt_or_ge j k with h1 | h1
 · exact h j h1
 · have : j = k := by omega
   subst this
   rw [List.getElem?_eq_getElem ha, List.getElem?_eq_getElem hb, neCell_false.1 hc]
set_option maxRecDepth 100000 in
set_option maxHeartbeats 400000 in
theorem eqRow (va vb : Value) (a b : List Cell) (w : World) (ha : RowIs w va a) (hb : RowIs w vb b) :
 Calls Tryz.prog 21 #[va, vb] w fun e w' => e = .returned (.bool (sameRow a b)) ∧ Old w w' := by
 have hG := cellGuard
 obtain ⟨A, ca, rfl, hla, hma, ha⟩ := ha.row
 obtain ⟨B, cb, rfl, hlb, hmb, hb⟩ := hb.row
 unfold maxLen at hma hmb
 go_enter Tryz.func21, Tryz.ntmps21
 by_cases hl : a.length = b.length
 · have hl' : ((a.length : Int) != (b.length : Int)) = false := by simp [hl]
   have HL := Lib.hid hl
   have hl1 : a.length ≤ b.length := by omega
   have hl2 : b.length ≤ a.length := by omega
   clear hl
   go_wp2_with fail
   go_loopw [5] (fun i wr => ∃ k : Nat, i = .int .i64 k ∧ k ≤ a.length ∧ Hid (∀ j : Nat, j < k → a[j]? = b[j]?) ∧ Old w wr) (fun i _ => a.length - (intOf i).toNat)
   case atStart => exact ⟨0, rfl, by omega, Lib.hid (by intro j hj; omega), Old.refl _⟩
   case round =>
    obtain ⟨k, rfl, hk, HQ, hbl⟩ := hrel
    by_cases hlt : k < a.length
    · have hlt' : k < b.length := by omega
      obtain ⟨b1, o1, rfl, hc1⟩ := ha.resolve_left (by omega)
      obtain ⟨b2, o2, rfl, hc2⟩ := hb.resolve_left (by omega)
      obtain ⟨x0, x1, x2⟩ := hc1 k hlt
      obtain ⟨y0, y1, y2⟩ := hc2 k hlt'
      have hx0 := Old.cell hbl x0
      have hx1 := Old.cell hbl x1
      have hx2 := Old.cell hbl x2
      have hy0 := Old.cell hbl y0
      have hy1 := Old.cell hbl y1
      have hy2 := Old.cell hbl y2
      have hq := neq_cell a[k] b[k]
      clear ha hb hc1 hc2 x0 x1 x2 y0 y1 y2
      go_wp2_with fail
      go_quiet (fail)
      clear hx0 hx1 hx2 hy0 hy1 hy2 hq
      cases hc : neCell a[k] b[k]
      · have HC := Lib.hid hc
        clear hc
        go_wp2_with fail
        go_roundw
        case rel => exact ⟨k + 1, by go_num, by omega, Lib.hid (row_next hlt hlt' HQ.out HC.out), Old.drewN hbl _⟩
        case measure => simp [intOf]; omega
      · have HC := Lib.hid hc
        clear hc
        go_wp2_with fail
        go_ret
        exact ⟨ret_bool (sameRow_at hlt hlt' HC.out).symm, Old.drewN hbl _⟩
    · go_wp2_with fail
      go_ret
      exact ⟨ret_bool (sameRow_end HL.out (fun j hj => HQ.out j (by omega))).symm, hbl⟩
 · have hl' : ((a.length : Int) != (b.length : Int)) = true := by simp; omega
   go_wp2_with fail
   go_ret
   exact ⟨ret_bool (sameRow_len hl).symm, Old.refl _⟩
def NewRow (w0 : World) (r : List Cell) (e : Ending) (w' : World) : Prop :=
 ∃ v, e = .returned v ∧ SlT 38 w0.heap.size w' v r.length (rowVals r) ∧ Old w0 w'
theorem NewRow.form {w0 w' : World} {r : List Cell} {e : Ending} {lo : Nat} (h : NewRow w0 r e w') (hl : lo ≤ w0.heap.size) :
 ∃ A cp, e = .returned (.slice A r.length cp) ∧ SlT 38 lo w' (.slice A r.length cp) r.length (rowVals r) ∧ Old w0 w' := by
 obtain ⟨v, rfl, h1, h2⟩ := h
 obtain ⟨A, cp, rfl, _⟩ := id h1
 exact ⟨A, cp, rfl, h1.mono hl, h2⟩
set_option maxRecDepth 100000 in
theorem copyRow (v : Value) (r : List Cell) (w : World) (h : RowIs w v r) (hlen : r.length ≤ 1048576) : Calls Tryz.prog 14 #[v] w (NewRow w r) := by
 have H := Lib.hid h
 obtain ⟨A, cap, rfl, rest⟩ := h
 clear rest
 go_enter Tryz.func14, Tryz.ntmps14
 go_wp2_with (at_builtin; refine wpList_plain rfl (fun K hK => ?_); refine step_push_row _ _ _ rfl w.heap.size (.slice none 0 0) [] rfl (World.ownsRow_nil _ _ _ _) _ r rfl H.out (by simp; omega) (Nat.le_refl _) ?_; intro v' w' own hk; refine hK _ _ ?_; clear hK)
 go_ret
 exact ⟨_, rfl, SlT.of_own own, hk.old (Old.refl _) (Nat.le_refl _)⟩
theorem one_row {w : World} {g cap : Nat} {c : Cell} (h0 : w.cell? ⟨g, 0, none⟩ = some (.bool c.null)) (h1 : w.cell? ⟨g, 1, none⟩ = some (.int .i64 c.n)) (h2 : w.cell? ⟨g, 2, none⟩ = some (.string c.s)) (hc : 1 ≤ cap) (hm : cap ≤ maxLen) : RowIs w (.slice (some ⟨g, 0, none⟩) 1 cap) [c] := by
 refine ⟨_, cap, rfl, hc, hm, fun _ => ⟨g, 0, rfl, fun j u hu => ?_⟩⟩
 match j, hu with
 | 0, hu => simp [rowVals, Cell.vals] at hu; subst hu; exact h0
 | 1, hu => simp [rowVals, Cell.vals] at hu; subst hu; exact h1
 | 2, hu => simp [rowVals, Cell.vals] at hu; subst hu; exact h2
 | j + 3, hu => simp [rowVals, Cell.vals] at hu
end Go.Proofs.YthlfljmfggmfdaaGreatDoor

/-! ###  -/
namespace Go.Proofs.YthlfljmfggmfdaaGreatDoor
open Go.RowKit
theorem empty_cases (s : ByteArray) : s = ⟨#[]⟩ ∨ (s.toList.isEmpty = false ∧ ¬ s = ⟨#[]⟩ ∧ ¬ s = none_) := by
 by_cases h : s = ⟨#[]⟩
 · exact .inl h
 · refine .inr ⟨?_, h, h⟩
   cases hl : s.toList with
   | nil =>
     exfalso
     apply h
     apply bytesD_ext
     rw [← ByteArray.toList_eq, hl]
   | cons a l => rfl
abbrev Cl (c : Cell) : Value := .agg #[.bool c.null, .int .i64 c.n, .string c.s]
abbrev Ty (k : Int) (nl : Bool) : Value := .agg #[.int .i64 k, .bool nl]
def Ret (v : Value) (w : World) (e : Ending) (w' : World) : Prop := e = .returned v ∧ Old w w'
theorem may_run (k : Int) (nl : Bool) (w : World) : Calls Tryz.prog 43 #[Ty k nl] w (Ret (.bool (mayK k)) w) := by
 unfold Ret
 by_cases h0 : 0 < k
 · by_cases h1 : k < 6
   · have hm : mayK k = true := by simp [mayK]; omega
     rw [hm]
     go_enter Tryz.func43, Tryz.ntmps43
     go_wp2_with fail
     go_ret
     exact ⟨rfl, Old.alloc (Old.refl _) _⟩
   · have hm : mayK k = false := by simp [mayK]; omega
     rw [hm]
     go_enter Tryz.func43, Tryz.ntmps43
     go_wp2_with fail
     go_ret
     exact ⟨rfl, Old.alloc (Old.refl _) _⟩
 · have hm : mayK k = false := by simp [mayK]; omega
   rw [hm]
   go_enter Tryz.func43, Tryz.ntmps43
   go_wp2_with fail
   go_ret
   exact ⟨rfl, Old.alloc (Old.refl _) _⟩
theorem rmay_run (k : Int) (nl : Bool) (w : World) : Calls Tryz.prog 46 #[Ty k nl] w (Ret (.bool (mayK k)) w) := by
 unfold Ret
 by_cases h0 : 1 ≤ k
 · by_cases h1 : k ≤ 5
   · have hm : mayK k = true := by simp [mayK]; omega
     rw [hm]
     go_enter Tryz.func46, Tryz.ntmps46
     go_wp2_with fail
     go_ret
     exact ⟨rfl, Old.alloc (Old.refl _) _⟩
   · have hm : mayK k = false := by simp [mayK]; omega
     rw [hm]
     go_enter Tryz.func46, Tryz.ntmps46
     go_wp2_with fail
     go_ret
     exact ⟨rfl, Old.alloc (Old.refl _) _⟩
 · have hm : mayK k = false := by simp [mayK]; omega
   rw [hm]
   go_enter Tryz.func46, Tryz.ntmps46
   go_wp2_with fail
   go_ret
   exact ⟨rfl, Old.alloc (Old.refl _) _⟩
def plB (lo hi : Int) (c : Cell) : Bool := decide (c.s = none_) && decide (lo ≤ c.n) && decide (c.n ≤ hi)
theorem plain_runC (lo hi : Int) (c : Cell) (p q : Nat) (w : World) (hp : w.cell? ⟨p, 0, none⟩ = some (.int .i64 lo)) (hq : w.cell? ⟨q, 0, none⟩ = some (.int .i64 hi)) : Calls Tryz.prog 130 #[Cl c, .pointer (some ⟨p, 0, none⟩), .pointer (some ⟨q, 0, none⟩)] w (Ret (.bool (plB lo hi c)) w) := by
 unfold Ret
 obtain ⟨nl, n, s⟩ := c
 unfold Cl
 simp only
 have lp : p < w.heap.size := block_lt_of_cell hp
 have lq : q < w.heap.size := block_lt_of_cell hq
 rcases empty_cases s with rfl | ⟨e1, e2, e3⟩
 · by_cases h0 : lo ≤ n
   · by_cases h1 : n ≤ hi
     · have hm : plB lo hi ⟨nl, n, ⟨#[]⟩⟩ = true := by simp [plB, h0, h1, none_]
       rw [hm]
       go_enter Tryz.func130, Tryz.ntmps130
       go_wp2_with fail
       go_ret
       exact ⟨rfl, Old.alloc (Old.refl _) _⟩
     · have hm : plB lo hi ⟨nl, n, ⟨#[]⟩⟩ = false := by simp [plB, h0, h1, none_]
       rw [hm]
       go_enter Tryz.func130, Tryz.ntmps130
       go_wp2_with fail
       go_ret
       exact ⟨rfl, Old.alloc (Old.refl _) _⟩
   · have hm : plB lo hi ⟨nl, n, ⟨#[]⟩⟩ = false := by simp [plB, h0, none_]
     rw [hm]
     go_enter Tryz.func130, Tryz.ntmps130
     go_wp2_with fail
     go_ret
     exact ⟨rfl, Old.alloc (Old.refl _) _⟩
 · have hm : plB lo hi ⟨nl, n, s⟩ = false := by simp [plB, e3]
   rw [hm]
   go_enter Tryz.func130, Tryz.ntmps130
   go_wp2_with fail
   go_ret
   exact ⟨rfl, Old.alloc (Old.refl _) _⟩
def szB (c : Cell) : Bool := decide (c.n = 0) && decide (c.s.size ≤ 1024)
theorem size_run (c : Cell) (w : World) : Calls Tryz.prog 131 #[Cl c] w (Ret (.bool (szB c)) w) := by
 unfold Ret
 obtain ⟨nl, n, s⟩ := c
 unfold Cl
 simp only
 by_cases h0 : n = 0
 · subst h0
   by_cases h1 : s.size ≤ 1024
   · have hm : szB ⟨nl, 0, s⟩ = true := by simp [szB, h1]
     have h1i : (s.size : Int) ≤ 1024 := by omega
     rw [hm]
     go_enter Tryz.func131, Tryz.ntmps131
     go_wp2_with fail
     go_ret
     exact ⟨rfl, Old.alloc (Old.refl _) _⟩
   · have hm : szB ⟨nl, 0, s⟩ = false := by simp [szB, h1]
     have h1i : ¬ (s.size : Int) ≤ 1024 := by omega
     rw [hm]
     go_enter Tryz.func131, Tryz.ntmps131
     go_wp2_with fail
     go_ret
     exact ⟨rfl, Old.alloc (Old.refl _) _⟩
 · have hm : szB ⟨nl, n, s⟩ = false := by simp [szB, h0]
   rw [hm]
   go_enter Tryz.func131, Tryz.ntmps131
   go_wp2_with fail
   go_ret
   exact ⟨rfl, Old.alloc (Old.refl _) _⟩
theorem szB_le {c : Cell} (h : szB c = true) : c.s.size ≤ 9223372036854775807 := by simp [szB] at h; omega
theorem text_run (c : Cell) (p : Nat) (w : World) (hp : w.cell? ⟨p, 0, none⟩ = some (.func (.func 131) #[] #[])) (hT : Tabs w) : Calls Tryz.prog 141 #[Cl c, .pointer (some ⟨p, 0, none⟩)] w (Ret (.bool (szB c && vU c.s)) w) := by
 unfold Ret
 have lp : p < w.heap.size := block_lt_of_cell hp
 have HT := hide hT
 have CS := hide (fun w' => size_run c w')
 cases hz : szB c
 · rw [Bool.false_and]
   go_enter Tryz.func141, Tryz.ntmps141
   go_wp2_with fail
   refine (CS.out _).mono ?_
   rintro e w1 ⟨rfl, o1⟩
   have O1 := hide (Old.trans (Old.alloc (Old.refl w) _) o1)
   clear o1
   rw [hz]
   go_wp2_with fail
   go_ret
   exact ⟨rfl, O1.out⟩
 · rw [Bool.true_and]
   have hsz := szB_le hz
   go_enter Tryz.func141, Tryz.ntmps141
   go_wp2_with fail
   refine (CS.out _).mono ?_
   rintro e w1 ⟨rfl, o1⟩
   have y := Old.cell o1 (cell_of_heap (heap_alloc_new w _) : (w.alloc (.cells #[.bool c.null, .int .i64 c.n, .string c.s] 38)).cell? ⟨w.heap.size, 2, none⟩ = some (.string c.s))
   have O1 := hide (Old.trans (Old.alloc (Old.refl w) _) o1)
   clear o1
   have CV := hide (utf_Valid c.s w1 hsz (HT.out.old O1.out))
   rw [hz]
   go_wp2_with fail
   refine CV.out.mono ?_
   rintro e w2 ⟨rfl, o2⟩
   have O2 := hide (Old.trans O1.out o2)
   clear o2
   go_wp2_with fail
   go_ret
   exact ⟨rfl, O2.out⟩
def Wf (c : Cell) : Prop := -9223372036854775808 ≤ c.n ∧ c.n ≤ 9223372036854775807
theorem rof_1 (nl : Bool) (c : Cell) (hc : c.null = false) (hw : Wf c) (w : World) : Calls Tryz.prog 116 #[Ty 1 nl, Cl c] w (Ret (.bool (cellOk vU 1 nl c)) w) := by
 unfold Ret
 obtain ⟨cn, n, s⟩ := c
 simp only at hc
 subst hc
 unfold Wf at hw
 simp only at hw
 obtain ⟨hw1, hw2⟩ := hw
 unfold Cl Ty
 simp only
 rcases empty_cases s with rfl | ⟨e1, e2, e3⟩
 · by_cases h0 : n = 0
   · subst h0
     have hm : cellOk vU 1 nl ⟨false, 0, ⟨#[]⟩⟩ = true := by simp [cellOk, someOk, none_]
     rw [hm]
     go_enter Tryz.func116, Tryz.ntmps116
     go_wp2_with fail
     go_ret
     exact ⟨rfl, Old.alloc (Old.alloc (Old.refl _) _) _⟩
   · by_cases h1 : n = 1
     · subst h1
       have hm : cellOk vU 1 nl ⟨false, 1, ⟨#[]⟩⟩ = true := by simp [cellOk, someOk, none_]
       rw [hm]
       go_enter Tryz.func116, Tryz.ntmps116
       go_wp2_with fail
       go_ret
       exact ⟨rfl, Old.alloc (Old.alloc (Old.refl _) _) _⟩
     · have hx : ¬ (0 ≤ n ∧ n ≤ 1) := by omega
       have hm : cellOk vU 1 nl ⟨false, n, ⟨#[]⟩⟩ = false := by simp [cellOk, someOk, none_]; omega
       have q0 : (n == 0) = false := by simp [h0]
       have q1 : (n == 1) = false := by simp [h1]
       clear hx
       rw [hm]
       go_enter Tryz.func116, Tryz.ntmps116
       go_wp2_with fail
       go_ret
       exact ⟨rfl, Old.alloc (Old.alloc (Old.refl _) _) _⟩
 · skip
   have hm : cellOk vU 1 nl ⟨false, n, s⟩ = false := by simp [cellOk, someOk, e3]
   rw [hm]
   go_enter Tryz.func116, Tryz.ntmps116
   go_wp2_with fail
   go_ret
   exact ⟨rfl, Old.alloc (Old.alloc (Old.refl _) _) _⟩
theorem rof_2 (nl : Bool) (c : Cell) (hc : c.null = false) (hw : Wf c) (w : World) : Calls Tryz.prog 116 #[Ty 2 nl, Cl c] w (Ret (.bool (cellOk vU 2 nl c)) w) := by
 unfold Ret
 obtain ⟨cn, n, s⟩ := c
 simp only at hc
 subst hc
 unfold Wf at hw
 simp only at hw
 obtain ⟨hw1, hw2⟩ := hw
 unfold Cl Ty
 simp only
 rcases empty_cases s with rfl | ⟨e1, e2, e3⟩
 · by_cases h0 : -2147483648 ≤ n
   · by_cases h1 : n ≤ 2147483647
     · skip
       have hm : cellOk vU 2 nl ⟨false, n, ⟨#[]⟩⟩ = true := by simp [cellOk, someOk, none_, h0, h1]
       rw [hm]
       go_enter Tryz.func116, Tryz.ntmps116
       go_wp2_with fail
       go_ret
       exact ⟨rfl, Old.alloc (Old.alloc (Old.refl _) _) _⟩
     · skip
       have hm : cellOk vU 2 nl ⟨false, n, ⟨#[]⟩⟩ = false := by simp [cellOk, someOk, none_, h0, h1]
       rw [hm]
       go_enter Tryz.func116, Tryz.ntmps116
       go_wp2_with fail
       go_ret
       exact ⟨rfl, Old.alloc (Old.alloc (Old.refl _) _) _⟩
   · skip
     have hm : cellOk vU 2 nl ⟨false, n, ⟨#[]⟩⟩ = false := by simp [cellOk, someOk, none_, h0]
     rw [hm]
     go_enter Tryz.func116, Tryz.ntmps116
     go_wp2_with fail
     go_ret
     exact ⟨rfl, Old.alloc (Old.alloc (Old.refl _) _) _⟩
 · skip
   have hm : cellOk vU 2 nl ⟨false, n, s⟩ = false := by simp [cellOk, someOk, e3]
   rw [hm]
   go_enter Tryz.func116, Tryz.ntmps116
   go_wp2_with fail
   go_ret
   exact ⟨rfl, Old.alloc (Old.alloc (Old.refl _) _) _⟩
theorem rof_3 (nl : Bool) (c : Cell) (hc : c.null = false) (hw : Wf c) (w : World) : Calls Tryz.prog 116 #[Ty 3 nl, Cl c] w (Ret (.bool (cellOk vU 3 nl c)) w) := by
 unfold Ret
 obtain ⟨cn, n, s⟩ := c
 simp only at hc
 subst hc
 unfold Wf at hw
 simp only at hw
 obtain ⟨hw1, hw2⟩ := hw
 unfold Cl Ty
 simp only
 rcases empty_cases s with rfl | ⟨e1, e2, e3⟩
 · skip
   have hm : cellOk vU 3 nl ⟨false, n, ⟨#[]⟩⟩ = true := by simp [cellOk, someOk, none_, hw1, hw2]
   rw [hm]
   go_enter Tryz.func116, Tryz.ntmps116
   go_wp2_with fail
   go_ret
   exact ⟨rfl, Old.alloc (Old.alloc (Old.refl _) _) _⟩
 · skip
   have hm : cellOk vU 3 nl ⟨false, n, s⟩ = false := by simp [cellOk, someOk, e3]
   rw [hm]
   go_enter Tryz.func116, Tryz.ntmps116
   go_wp2_with fail
   go_ret
   exact ⟨rfl, Old.alloc (Old.alloc (Old.refl _) _) _⟩
theorem rof_4 (nl : Bool) (c : Cell) (hc : c.null = false) (hw : Wf c) (w : World) : Calls Tryz.prog 116 #[Ty 4 nl, Cl c] w (Ret (.bool (cellOk vU 4 nl c)) w) := by
 unfold Ret
 obtain ⟨cn, n, s⟩ := c
 simp only at hc
 subst hc
 unfold Wf at hw
 simp only at hw
 obtain ⟨hw1, hw2⟩ := hw
 unfold Cl Ty
 simp only
 by_cases h0 : n = 0
 · subst h0
   by_cases h1 : s.size ≤ 1024
   · have h1i : (s.size : Int) ≤ 1024 := by omega
     have hm : cellOk vU 4 nl ⟨false, 0, s⟩ = vU s := by simp [cellOk, someOk, h1]
     rw [hm]
     have CV := hide (fun w' => ref_Valid' s w' (by omega))
     go_enter Tryz.func116, Tryz.ntmps116
     go_wp2_with fail
     refine (CV.out _).mono ?_
     rintro e w1 ⟨rfl, o1⟩
     have O1 := hide (Old.trans (Old.alloc (Old.alloc (Old.refl w) _) _) o1)
     clear o1
     go_wp2_with fail
     go_ret
     exact ⟨rfl, O1.out⟩
   · have h1i : ¬ (s.size : Int) ≤ 1024 := by omega
     have hm : cellOk vU 4 nl ⟨false, 0, s⟩ = false := by simp [cellOk, someOk, h1]
     rw [hm]
     go_enter Tryz.func116, Tryz.ntmps116
     go_wp2_with fail
     go_ret
     exact ⟨rfl, Old.alloc (Old.alloc (Old.refl _) _) _⟩
 · skip
   have hm : cellOk vU 4 nl ⟨false, n, s⟩ = false := by simp [cellOk, someOk, h0]
   rw [hm]
   go_enter Tryz.func116, Tryz.ntmps116
   go_wp2_with fail
   go_ret
   exact ⟨rfl, Old.alloc (Old.alloc (Old.refl _) _) _⟩
theorem rof_5 (nl : Bool) (c : Cell) (hc : c.null = false) (hw : Wf c) (w : World) : Calls Tryz.prog 116 #[Ty 5 nl, Cl c] w (Ret (.bool (cellOk vU 5 nl c)) w) := by
 unfold Ret
 obtain ⟨cn, n, s⟩ := c
 simp only at hc
 subst hc
 unfold Wf at hw
 simp only at hw
 obtain ⟨hw1, hw2⟩ := hw
 unfold Cl Ty
 simp only
 by_cases h0 : n = 0
 · subst h0
   by_cases h1 : s.size ≤ 1024
   · have h1i : (s.size : Int) ≤ 1024 := by omega
     have hm : cellOk vU 5 nl ⟨false, 0, s⟩ = true := by simp [cellOk, someOk, h1]
     rw [hm]
     go_enter Tryz.func116, Tryz.ntmps116
     go_wp2_with fail
     go_ret
     exact ⟨rfl, Old.alloc (Old.alloc (Old.refl _) _) _⟩
   · have h1i : ¬ (s.size : Int) ≤ 1024 := by omega
     have hm : cellOk vU 5 nl ⟨false, 0, s⟩ = false := by simp [cellOk, someOk, h1]
     rw [hm]
     go_enter Tryz.func116, Tryz.ntmps116
     go_wp2_with fail
     go_ret
     exact ⟨rfl, Old.alloc (Old.alloc (Old.refl _) _) _⟩
 · skip
   have hm : cellOk vU 5 nl ⟨false, n, s⟩ = false := by simp [cellOk, someOk, h0]
   rw [hm]
   go_enter Tryz.func116, Tryz.ntmps116
   go_wp2_with fail
   go_ret
   exact ⟨rfl, Old.alloc (Old.alloc (Old.refl _) _) _⟩
theorem rof_null (k : Int) (nl : Bool) (c : Cell) (hc : c.null = true) (w : World) : Calls Tryz.prog 116 #[Ty k nl, Cl c] w (Ret (.bool (cellOk vU k nl c)) w) := by
 unfold Ret
 obtain ⟨cn, n, s⟩ := c
 simp only at hc
 subst hc
 unfold Cl Ty
 simp only
 cases nl
 · have hm : cellOk vU k false ⟨true, n, s⟩ = false := by simp [cellOk]
   rw [hm]
   go_enter Tryz.func116, Tryz.ntmps116
   go_wp2_with fail
   go_ret
   exact ⟨rfl, Old.alloc (Old.alloc (Old.refl _) _) _⟩
 · by_cases h0 : n = 0
   · subst h0
     rcases empty_cases s with rfl | ⟨e1, e2, e3⟩
     · have hm : cellOk vU k true ⟨true, 0, ⟨#[]⟩⟩ = true := by simp [cellOk, none_]
       rw [hm]
       go_enter Tryz.func116, Tryz.ntmps116
       go_wp2_with fail
       go_ret
       exact ⟨rfl, Old.alloc (Old.alloc (Old.refl _) _) _⟩
     · have hm : cellOk vU k true ⟨true, 0, s⟩ = false := by simp [cellOk, e3]
       rw [hm]
       go_enter Tryz.func116, Tryz.ntmps116
       go_wp2_with fail
       go_ret
       exact ⟨rfl, Old.alloc (Old.alloc (Old.refl _) _) _⟩
   · have hm : cellOk vU k true ⟨true, n, s⟩ = false := by simp [cellOk, h0]
     rw [hm]
     go_enter Tryz.func116, Tryz.ntmps116
     go_wp2_with fail
     go_ret
     exact ⟨rfl, Old.alloc (Old.alloc (Old.refl _) _) _⟩
theorem rof_run (k : Int) (nl : Bool) (c : Cell) (hk : mayK k = true) (hw : Wf c) (w : World) : Calls Tryz.prog 116 #[Ty k nl, Cl c] w (Ret (.bool (cellOk vU k nl c)) w) := by
 cases hc : c.null
 · have h5 : k = 1 ∨ k = 2 ∨ k = 3 ∨ k = 4 ∨ k = 5 := by simp [mayK] at hk; omega
   rcases h5 with rfl | rfl | rfl | rfl | rfl
   · exact rof_1 nl c hc hw w
   · exact rof_2 nl c hc hw w
   · exact rof_3 nl c hc hw w
   · exact rof_4 nl c hc hw w
   · exact rof_5 nl c hc hw w
 · exact rof_null k nl c hc w
theorem rcheck_run (k : Int) (nl : Bool) (c : Cell) (hw : Wf c) (w : World) : Calls Tryz.prog 85 #[Ty k nl, Cl c] w (Ret (.int .i64 (cellErr vU k nl c)) w) := by
 unfold Ret
 have CM := hide (fun w' => rmay_run k nl w')
 cases hk : mayK k
 · have hm : cellErr vU k nl c = 2 := by simp [cellErr, hk]
   rw [hm]
   clear hm
   go_enter Tryz.func85, Tryz.ntmps85
   go_wp2_with fail
   refine (CM.out _).mono ?_
   rintro e w1 ⟨rfl, o1⟩
   have O1 := hide (Old.trans (Old.alloc (Old.alloc (Old.refl w) _) _) o1)
   clear o1
   rw [hk]
   go_wp2_with fail
   go_ret
   exact ⟨rfl, O1.out⟩
 · have CF := hide (fun w' => rof_run k nl c hk hw w')
   cases hz : cellOk vU k nl c
   · have hm : cellErr vU k nl c = 90 := by simp [cellErr, hk, hz]
     rw [hm]
     clear hm
     go_enter Tryz.func85, Tryz.ntmps85
     go_wp2_with fail
     refine (CM.out _).mono ?_
     rintro e w1 ⟨rfl, o1⟩
     have y1 := fun (i : Nat) v (h : (w.alloc (.cells #[.int .i64 k, .bool nl] 54)).cell? ⟨w.heap.size, i, none⟩ = some v) => Old.cell o1 (Old.cell (Old.alloc (Old.refl _) _) h)
     have x0 := y1 0 _ (cell_of_heap (heap_alloc_new w _))
     have x1 := y1 1 _ (cell_of_heap (heap_alloc_new w _))
     clear y1
     have hsz : (w.alloc (.cells #[.int .i64 k, .bool nl] 54)).heap.size = w.heap.size + 1 := by simp
     have z1 : ∀ (i : Nat) v, (#[.bool c.null, .int .i64 c.n, .string c.s] : Array Value)[i]? = some v → w1.cell? ⟨w.heap.size + 1, i, none⟩ = some v := by
      intro i v h
      rw [← hsz]
      exact Old.cell o1 ((cell_of_heap (heap_alloc_new _ _)).trans h)
     have v0 := z1 0 _ rfl
     have v1 := z1 1 _ rfl
     have v2 := z1 2 _ rfl
     clear z1
     have O1 := hide (Old.trans (Old.alloc (Old.alloc (Old.refl w) _) _) o1)
     clear o1
     rw [hk]
     go_wp2_with fail
     refine (CF.out _).mono ?_
     rintro e w2 ⟨rfl, o2⟩
     have O2 := hide (Old.trans O1.out o2)
     clear o2
     rw [hz]
     go_wp2_with fail
     go_ret
     exact ⟨rfl, O2.out⟩
   · have hm : cellErr vU k nl c = 0 := by simp [cellErr, hk, hz]
     rw [hm]
     clear hm
     go_enter Tryz.func85, Tryz.ntmps85
     go_wp2_with fail
     refine (CM.out _).mono ?_
     rintro e w1 ⟨rfl, o1⟩
     have y1 := fun (i : Nat) v (h : (w.alloc (.cells #[.int .i64 k, .bool nl] 54)).cell? ⟨w.heap.size, i, none⟩ = some v) => Old.cell o1 (Old.cell (Old.alloc (Old.refl _) _) h)
     have x0 := y1 0 _ (cell_of_heap (heap_alloc_new w _))
     have x1 := y1 1 _ (cell_of_heap (heap_alloc_new w _))
     clear y1
     have hsz : (w.alloc (.cells #[.int .i64 k, .bool nl] 54)).heap.size = w.heap.size + 1 := by simp
     have z1 : ∀ (i : Nat) v, (#[.bool c.null, .int .i64 c.n, .string c.s] : Array Value)[i]? = some v → w1.cell? ⟨w.heap.size + 1, i, none⟩ = some v := by
      intro i v h
      rw [← hsz]
      exact Old.cell o1 ((cell_of_heap (heap_alloc_new _ _)).trans h)
     have v0 := z1 0 _ rfl
     have v1 := z1 1 _ rfl
     have v2 := z1 2 _ rfl
     clear z1
     have O1 := hide (Old.trans (Old.alloc (Old.alloc (Old.refl w) _) _) o1)
     clear o1
     rw [hk]
     go_wp2_with fail
     refine (CF.out _).mono ?_
     rintro e w2 ⟨rfl, o2⟩
     have O2 := hide (Old.trans O1.out o2)
     clear o2
     rw [hz]
     go_wp2_with fail
     go_ret
     exact ⟨rfl, O2.out⟩
end Go.Proofs.YthlfljmfggmfdaaGreatDoor

/-! ###  -/
namespace Go.Proofs.YthlfljmfggmfdaaGreatDoor
def bT (l : List UInt8) : ByteArray := ⟨l.toArray⟩
theorem bT_size (l : List UInt8) : (bT l).size = l.length := by simp [bT, ByteArray.size]
theorem bT_of (s : ByteArray) : bT s.data.toList = s := by cases s; simp [bT]
def encL (n : Nat) : List UInt8 := (Utf8.encode (n : Int)).data.toList
def hexV (c : UInt8) : Option Nat :=
 if 48 ≤ c.toNat ∧ c.toNat ≤ 57 then some (c.toNat - 48) else if 97 ≤ c.toNat ∧ c.toNat ≤ 102 then some (c.toNat - 87) else if 65 ≤ c.toNat ∧ c.toNat ≤ 70 then some (c.toNat - 55) else none
theorem hexV_lt {c : UInt8} {k : Nat} (h : hexV c = some k) : k < 16 := by
 unfold hexV at h
 split at h
 · injection h with h; omega
 · split at h
   · injection h with h; omega
   · split at h
     · injection h with h; omega
     · cases h
def hex1 : List UInt8 → Except Int (Nat × List UInt8)
 | [] => .error 3
 | c :: r => match hexV c with
   | none => .error 41
   | some k => .ok (k, r)
def lowHalf (n : Nat) : Bool := decide (220 ≤ n ∧ n ≤ 223)
def half4 (second : Bool) (l : List UInt8) : Except Int (Nat × List UInt8) :=
 match hex1 l with
 | .error e => .error e
 | .ok (a, l1) => if second = true ∧ a ≠ 13 then .error 41 else match hex1 l1 with
   | .error e => .error e
   | .ok (b, l2) => if second ≠ lowHalf (16 * a + b) then .error 41 else match hex1 l2 with
     | .error e => .error e
     | .ok (c, l3) => match hex1 l3 with
       | .error e => .error e
       | .ok (d, l4) => .ok (4096 * a + 256 * b + 16 * c + d, l4)
def want1 (x : UInt8) : List UInt8 → Except Int (List UInt8)
 | [] => .error 3
 | c :: r => if c = x then .ok r else .error 41
def shortV (c : UInt8) : Option Nat :=
 if c = 34 then some 34 else if c = 92 then some 92 else if c = 98 then some 8 else if c = 102 then some 12 else if c = 110 then some 10 else if c = 114 then some 13 else if c = 116 then some 9 else none
def isHigh (n : Nat) : Bool := decide (55296 ≤ n) && decide (n < 56320)
def pairOf (n k : Nat) : Nat := 65536 + (n - 55296) * 1024 + k - 56320
def escV : List UInt8 → Except Int (List UInt8 × List UInt8)
 | [] => .error 3
 | c :: r => if c = 47 then .ok ([47], r) else match shortV c with
   | some k => .ok (encL k, r)
   | none => if c ≠ 117 then .error 41 else match half4 false r with
     | .error e => .error e
     | .ok (n, r1) => if isHigh n = true then (match want1 92 r1 with
        | .error e => .error e
        | .ok r2 => match want1 117 r2 with
          | .error e => .error e
          | .ok r3 => match half4 true r3 with
            | .error e => .error e
            | .ok (k, r4) => .ok (encL (pairOf n k), r4))
       else .ok (encL n, r1)
def fullN (n a b c : Nat) : Bool :=
 if Lib.firstT a % 8 ≤ n then true else if 1 < n ∧ (b < Lib.accLo (Lib.firstT a / 16) ∨ Lib.accHi (Lib.firstT a / 16) < b) then true else decide (2 < n ∧ (c < 128 ∨ 191 < c))
def fullB (l : List UInt8) : Bool := fullN l.length (l.getD 0 0).toNat (l.getD 1 0).toNat (l.getD 2 0).toNat
def runeN (l : List UInt8) : Nat := if Utf8.decode (bT l) 0 = (65533, 1) then 0 else (Utf8.decode (bT l) 0).2
def plainV : List UInt8 → Except Int (List UInt8 × List UInt8)
 | [] => .error 3
 | c :: r => if c.toNat < 32 then .error 41 else if runeN (c :: r) ≠ 0 then .ok ((c :: r).take (runeN (c :: r)), (c :: r).drop (runeN (c :: r))) else if fullB (c :: r) = false then .error 3 else .error 40
def pieceV : List UInt8 → Except Int (List UInt8 × List UInt8)
 | [] => .error 3
 | c :: r => if c = 92 then escV r else plainV (c :: r)
def unqB : Nat → List UInt8 → Except Int (List UInt8 × List UInt8)
 | 0, _ => .error 3
 | _ + 1, [] => .error 3
 | f + 1, c :: r => if c = 34 then .ok ([], r) else match pieceV (c :: r) with
   | .error e => .error e
   | .ok (t, r1) => match unqB f r1 with
     | .error e => .error e
     | .ok (u, r2) => .ok (t ++ u, r2)
def unqV : List UInt8 → Except Int (List UInt8 × List UInt8)
 | [] => .error 3
 | c :: r => if c ≠ 34 then .error 41 else unqB (r.length + 1) r
section
theorem hex1_less {l r : List UInt8} {k : Nat} (h : hex1 l = .ok (k, r)) : r.length < l.length ∧ k < 16 := by
 cases l with
 | nil => cases h
 | cons c l =>
   simp only [hex1] at h
   split at h
   · cases h
   · rename_i k' hk
     injection h with h
     injection h with h1 h2
     subst h1 h2
     exact ⟨by simp, hexV_lt hk⟩
theorem half4_less {s : Bool} {l r : List UInt8} {k : Nat} (h : half4 s l = .ok (k, r)) : r.length < l.length ∧ k < 65536 := by
 unfold half4 at h
 split at h
 · cases h
 rename_i a l1 h1
 split at h
 · cases h
 split at h
 · cases h
 rename_i b l2 h2
 split at h
 · cases h
 split at h
 · cases h
 rename_i c l3 h3
 split at h
 · cases h
 rename_i d l4 h4
 injection h with h
 injection h with e1 e2
 subst e1 e2
 have := hex1_less h1
 have := hex1_less h2
 have := hex1_less h3
 have := hex1_less h4
 omega
theorem want1_less {x : UInt8} {l r : List UInt8} (h : want1 x l = .ok r) : r.length < l.length := by
 cases l with
 | nil => cases h
 | cons c l =>
   simp only [want1] at h
   split at h
   · injection h with h
     subst h
     simp
   · cases h
theorem escV_less {l r t : List UInt8} (h : escV l = .ok (t, r)) : r.length < l.length := by
 cases l with
 | nil => cases h
 | cons c l =>
   simp only [escV] at h
   split at h
   · injection h with h; injection h with _ h; subst h; simp
   split at h
   · injection h with h; injection h with _ h; subst h; simp
   split at h
   · cases h
   split at h
   · cases h
   rename_i n r1 h1
   have a1 := (half4_less h1).1
   split at h
   · split at h
     · cases h
     rename_i r2 h2
     have a2 := want1_less h2
     split at h
     · cases h
     rename_i r3 h3
     have a3 := want1_less h3
     split at h
     · cases h
     rename_i k r4 h4
     have a4 := (half4_less h4).1
     injection h with h; injection h with _ h; subst h
     simp; omega
   · injection h with h; injection h with _ h; subst h
     simp; omega
theorem pieceV_less {l r t : List UInt8} (h : pieceV l = .ok (t, r)) : r.length < l.length := by
 cases l with
 | nil => cases h
 | cons c l =>
   simp only [pieceV] at h
   split at h
   · have := escV_less h
     simp; omega
   · simp only [plainV] at h
     split at h
     · cases h
     split at h
     · rename_i hn
       injection h with h; injection h with _ h; subst h
       simp only [List.length_drop, List.length_cons]
       omega
     · split at h <;> cases h
theorem unqB_more : ∀ (f g : Nat) (l : List UInt8), l.length < f → l.length < g → unqB f l = unqB g l
 | 0, _, _, h, _ => absurd h (by omega)
 | _, 0, _, _, h => absurd h (by omega)
 | f + 1, g + 1, [], _, _ => rfl
 | f + 1, g + 1, c :: r, h1, h2 => by
   simp only [unqB]
   split
   · rfl
   split
   · rfl
   · rename_i t r1 hp
     have := pieceV_less hp
     simp only [List.length_cons] at h1 h2 this
     rw [unqB_more f g r1 (by omega) (by omega)]
theorem unqB_less : ∀ (f : Nat) (l r t : List UInt8), unqB f l = .ok (t, r) → r.length < l.length
 | 0, _, _, _, h => by cases h
 | f + 1, [], _, _, h => by cases h
 | f + 1, c :: l, r, t, h => by
   simp only [unqB] at h
   split at h
   · injection h with h; injection h with _ h; subst h; simp
   split at h
   · cases h
   rename_i t1 r1 h1
   split at h
   · cases h
   rename_i u r2 h2
   have a1 := pieceV_less h1
   have a2 := unqB_less f r1 r2 u h2
   injection h with h; injection h with _ h; subst h
   omega
theorem unqV_less {l r t : List UInt8} (h : unqV l = .ok (t, r)) : r.length + 1 < l.length := by
 cases l with
 | nil => cases h
 | cons c l =>
   simp only [unqV] at h
   split at h
   · cases h
   · have := unqB_less _ _ _ _ h
     simp; omega
end
end Go.Proofs.YthlfljmfggmfdaaGreatDoor
