/-  -/
import Derived.Test.YthlfljmfggmfdaaGreatDoorQk04
import Derived.Test.YthlfljmfggmfdaaGreatDoorQk02
import Derived.IntWalk
import Derived.Carry
/-! ###  -/
namespace Go.Proofs.YthlfljmfggmfdaaGreatDoor
open Go.RowKit
def lookVal : Option Nat → Value
 | none => .tuple #[.int .i64 0, .bool false]
 | some d => .tuple #[.int .i64 d, .bool true]
def TextsOk (t : List Nd) : Prop := ∀ x ∈ t, x.key.size ≤ maxLen ∧ x.s.size ≤ maxLen
def Good (n k : Nat) (S : List Hold) : Prop := S.length ≤ k + 1 ∧ (∀ h ∈ S, h.fin ≤ n ∧ h.had.length ≤ k) ∧ ∃ S0 b, S = S0 ++ [b] ∧ b.fin = n
theorem Good.cons {n k : Nat} {S : List Hold} (h : Good n k S) : ∃ h0 S0, S = h0 :: S0 := by
 obtain ⟨_, _, S0, b, rfl, _⟩ := h
 cases S0 with
 | nil => exact ⟨b, [], rfl⟩
 | cons x S0 => exact ⟨x, S0 ++ [b], rfl⟩
theorem Good.pop {n k : Nat} {h : Hold} {S : List Hold} (g : Good n k (h :: S)) (hf : h.fin < n) : Good n k S := by
 obtain ⟨h1, h2, S0, b, h3, h4⟩ := g
 refine ⟨by simp at h1; omega, fun x hx => h2 x (by simp [hx]), ?_⟩
 cases S0 with
 | nil =>
   simp at h3
   rw [h3.1] at hf
   omega
 | cons x S0 =>
   simp at h3
   exact ⟨S0, b, h3.2, h4⟩
theorem Good.start (n : Nat) : Good n 0 [⟨false, n, []⟩] := ⟨by simp, by simp, [], _, rfl, rfl⟩
theorem OpenIs.topM {base m : Nat} {w : World} {v : Value} {h : Hold} {S : List Hold} (ho : OpenIs base w v (h :: S)) (hm : S.length = m) :
 ∃ g cap mv, v = .slice (some ⟨g, 0, none⟩) (m + 1) cap ∧ m + 1 ≤ cap ∧ cap ≤ maxLen ∧ base ≤ g ∧ w.cell? ⟨g, m * 3, none⟩ = some (.int .i64 h.kind) ∧ w.cell? ⟨g, m * 3 + 1, none⟩ = some (.int .i64 h.fin) ∧ w.cell? ⟨g, m * 3 + 2, none⟩ = some mv ∧ MapIs base w h mv := by
 subst hm
 exact ho.top
theorem OpenIs.popM {base m : Nat} {w : World} {g cap : Nat} {h : Hold} {S : List Hold} (ho : OpenIs base w (.slice (some ⟨g, 0, none⟩) (m + 1) cap) (h :: S)) (hm : S.length = m) : OpenIs base w (.slice (some ⟨g, 0, none⟩) m cap) S := by
 subst hm
 exact ho.pop
def lenOf : Value → Nat
 | .slice _ n _ => n
 | _ => 0
theorem popAll_else {i : Nat} {h : Hold} {S : List Hold} (hi : h.fin ≠ i) : popAll i (h :: S) = h :: S := by rw [popAll, if_neg hi]
theorem look_step {x : Nd} {r : List Nd} {S S' : List Hold} {h : Hold} {i d : Nat} (hp : popAll i S = h :: S') : lookGo vU (x :: r) S i d = if nodeB vU h i x then lookGo vU r (pushed h S' i x) (i + 1) (max d (S'.length + 1)) else none := by
 rw [lookGo, hp]
theorem pushed_hold {h : Hold} {S : List Hold} {i : Nat} {x : Nd} (hk : 6 ≤ x.kind) : pushed h S i x = ⟨decide (x.kind = 7), i + x.size.toNat, []⟩ :: h.add x.key :: S := by unfold pushed; rw [if_pos hk]
theorem pushed_leaf {h : Hold} {S : List Hold} {i : Nat} {x : Nd} (hk : ¬ 6 ≤ x.kind) : pushed h S i x = h.add x.key :: S := by unfold pushed; rw [if_neg hk]
theorem good_step {n k : Nat} {h : Hold} {S : List Hold} {x : Nd} (g : Good n k (h :: S)) (hn : nodeB vU h k x = true) : Good n (k + 1) (pushed h S k x) := by
 unfold nodeB at hn
 simp only [Bool.and_eq_true, decide_eq_true_eq] at hn
 obtain ⟨⟨⟨hs1, hs2⟩, _⟩, _⟩ := hn
 obtain ⟨g1, g2, S0, b, g3, g4⟩ := g
 have hfin := (g2 h (by simp)).1
 have hadd : ∀ y ∈ h.add x.key :: S, y.fin ≤ n ∧ y.had.length ≤ k + 1 := by
  intro y hy
  rcases List.mem_cons.1 hy with rfl | hy
  · refine ⟨by rw [add_fin]; exact hfin, ?_⟩
    have := (g2 h (by simp)).2
    unfold Hold.add
    split
    · simp; omega
    · omega
  · have := g2 y (by simp [hy])
    exact ⟨this.1, by omega⟩
 have hbot : ∃ S0 b, h.add x.key :: S = S0 ++ [b] ∧ b.fin = n := by
  cases S0 with
  | nil =>
    simp at g3
    exact ⟨[], h.add x.key, by simp [g3.2], by rw [add_fin, g3.1, g4]⟩
  | cons y S0 =>
    simp at g3
    exact ⟨h.add x.key :: S0, b, by rw [g3.2]; rfl, g4⟩
 simp only [List.length_cons] at g1
 by_cases hk : 6 ≤ x.kind
 · rw [pushed_hold hk]
   refine ⟨by simp only [List.length_cons]; omega, fun y hy => ?_, ?_⟩
   · rcases List.mem_cons.1 hy with rfl | hy
     · exact ⟨by simp only; omega, by simp⟩
     · exact hadd y hy
   · obtain ⟨S1, b1, e1, e2⟩ := hbot
     exact ⟨_ :: S1, b1, by rw [e1]; rfl, e2⟩
 · rw [pushed_leaf hk]
   exact ⟨by simp only [List.length_cons]; omega, hadd, hbot⟩
theorem add_list {h : Hold} (ho : h.obj = false) (k : ByteArray) : h.add k = h := by unfold Hold.add; rw [ho]; rfl
theorem kind_list {h : Hold} (ho : h.obj = false) : h.kind = 6 := by unfold Hold.kind; rw [ho]; rfl
theorem kind_obj {h : Hold} (ho : h.obj = true) : h.kind = 7 := by unfold Hold.kind; rw [ho]; rfl
theorem grown_cell {w w' : World} {row : Option Nat} {p : Addr} {v : Value} (hg : w.grownBy w' row) (hc : w.cell? p = some v) (hne : some p.block ≠ row) : w'.cell? p = some v := by
 have hlt := World.block_lt_of_cell? w p hc
 unfold World.cell? at *
 rw [hg.block _ hlt hne]
 exact hc
theorem keys_ne {w : World} {b c j : Nat} {had : List ByteArray} {v : Value} (k : Keys w b had) (hc : w.cell? ⟨c, j, none⟩ = some v) : some c ≠ some b := by
 intro e
 injection e with e
 subst e
 obtain ⟨D, ⟨es, clock, h2, _⟩, _⟩ := k
 simp [World.cell?, h2] at hc
theorem grown_old {w w1 w2 : World} {b : Nat} (h : Old w w1) (hg : w1.grownBy w2 (some b)) (hb : w.heap.size ≤ b) : Old w w2 :=
 h.grown hg h.size fun k hk => by injection hk with hk; subst hk; exact hb
theorem OpenIs.putM {base m : Nat} {w w' : World} {g cap : Nat} {h : Hold} {S : List Hold} {b : Nat} {k : ByteArray} (ho : OpenIs base w (.slice (some ⟨g, 0, none⟩) (m + 1) cap) (h :: S)) (hm : S.length = m) (hobj : h.obj = true) (hg : w.grownBy w' (some b)) (hk : Keys w' b (h.had ++ [k]))
 (hc : w.cell? ⟨g, m * 3 + 2, none⟩ = some (.map (some b))) : OpenIs base w' (.slice (some ⟨g, 0, none⟩) (m + 1) cap) (h.add k :: S) := by
 subst hm
 exact ho.put hobj hg hk ⟨g, cap, rfl, hc⟩
theorem wpList_look_keysC {ops : Array Oper} {rest : List Oper} {o : Oper} {a : Act} {Q : Exit → Act → World → Prop} (w : World) (hg : o.guard = none) (m x : Operand) (t : TypeId) (hop : o.op = Op.lookup t m x true) (ht : Tryz.prog.underlying t = some (.map 9 3))
 (b : Nat) (had : List ByteArray) (hm : a.eval m = .map (some b)) (hk : Keys w b had) (s : ByteArray) (hx : a.eval x = .string s) (hs : s.size ≤ maxLen) (B : Bool) (hB : hasKey had s = B)
 (hK : ∀ c : Int, wpList Tryz.prog ops Q rest (a.put o.dst (.tuple #[.int .i64 c, .bool B])) w) : wpList Tryz.prog ops Q (o :: rest) a w := by
 subst hB
 exact wpList_look_keys w hg m x t hop ht b had hm hk s hx hs hK
theorem nodeB_yes {h : Hold} {k : Nat} {x : Nd} (h1 : ¬ x.size < 1) (h2 : x.size ≤ (h.fin : Int) - k) (h3 : fitsB vU x = true) (h4 : keyB vU h x.key = true) : nodeB vU h k x = true := by
 unfold nodeB
 simp [h3, h4]
 omega
theorem nodeB_key {h : Hold} {k : Nat} {x : Nd} (h4 : keyB vU h x.key = false) : ¬ nodeB vU h k x = true := by
 unfold nodeB
 simp [h4]
theorem nodeB_fits {h : Hold} {k : Nat} {x : Nd} (h4 : fitsB vU x = false) : ¬ nodeB vU h k x = true := by
 unfold nodeB
 simp [h4]
theorem nodeB_small {h : Hold} {k : Nat} {x : Nd} (h4 : x.size < 1) : ¬ nodeB vU h k x = true := by
 unfold nodeB
 simp
 intros
 omega
theorem nodeB_great {h : Hold} {k : Nat} {x : Nd} (h4 : (h.fin : Int) - k < x.size) : ¬ nodeB vU h k x = true := by
 unfold nodeB
 simp
 intros
 omega
theorem look_no_size {t : List Nd} {x : Nd} {r : List Nd} (h : t = x :: r) (hx : ¬ (x.key = none_ ∧ x.size = t.length)) : lookOf vU t = none := by
 subst h
 unfold lookOf
 simp only
 rw [if_neg hx]
theorem open_start (w : World) (n : Nat) : OpenIs w.heap.size (w.alloc (.cells #[.int .i64 6, .int .i64 n, .map none] 165)) (.slice (some ⟨w.heap.size, 0, none⟩) 1 1) [⟨false, n, []⟩] := by
 refine ⟨[.map none], rfl, World.ownsRow_lit w #[.int .i64 6, .int .i64 n, .map none] 1 (Nat.le_refl _) (by unfold maxLen; omega) rfl, fun i hi hi' => ?_, by simp [Apart]⟩
 have : i = 0 := by simp at hi; omega
 subst this
 exact .inl ⟨rfl, rfl⟩
set_option maxRecDepth 100000 in
set_option maxHeartbeats 1000000 in
theorem look_run (v : Value) (t : List Nd) (w : World) (ht : NodesIs w v t) (hl : t.length ≤ 4000) (hk : TextsOk t) (hT : Tabs w) :
 Calls Tryz.prog 91 #[v] w fun e w' => e = .returned (lookVal (lookOf vU t)) ∧ Old w w' := by
 obtain ⟨A, ca, rfl, hla, hma, ha⟩ := ht.nodes
 unfold maxLen at hma
 have HK := hide hk
 have HT := hide hT
 clear ht hk hT
 by_cases h0 : t.length = 0
 · have ht0 : t = [] := List.eq_nil_of_length_eq_zero h0
   subst ht0
   clear ha
   go_enter Tryz.func91, Tryz.ntmps91
   go_wp2_with fail
   go_ret2
   exact ⟨rfl, Old.refl _⟩
 · obtain ⟨b1, o1, rfl, hc1⟩ := ha.resolve_left h0
   have h0' : ((t.length : Int) == 0) = false := beq_eq_false_iff_ne.2 (by omega)
   have hpos : 0 < t.length := by omega
   obtain ⟨x0, r0, hx0⟩ : ∃ x r, Hid (t = x :: r) := by
    cases t with
    | nil => simp at hpos
    | cons x r => exact ⟨x, r, hide rfl⟩
   have hx00 : t[0] = x0 := by have := hx0.out; subst this; rfl
   obtain ⟨_, k1, _, _, k4⟩ := hc1 0 hpos
   have HC := hide hc1
   rw [hx00] at k1 k4
   have k1' : w.cell? ⟨b1, o1 + 1, none⟩ = some (.string x0.key) := by simpa using k1
   have k4' : w.cell? ⟨b1, o1 + 4, none⟩ = some (.int .i64 x0.size) := by simpa using k4
   clear ha hc1 k1 k4 hx00 h0
   by_cases hkey : x0.key = none_
   · have hkey' : x0.key.toList = [] := (str_none _).2 hkey
     have HKEY := hide hkey
     clear hkey
     by_cases hsz : x0.size = t.length
     · have hsz' : (x0.size != (t.length : Int)) = false := by simpa using hsz
       have HSZ := hide hsz
       clear hsz
       obtain ⟨ANS, hANS⟩ : ∃ ANS, Hid (lookOf vU t = ANS) := ⟨_, hide rfl⟩
       rw [hANS.out]
       go_enter Tryz.func91, Tryz.ntmps91
       go_wp2_with fail
       have HSTART := hide (show lookGo vU (t.drop 0) [⟨false, t.length, []⟩] 0 0 = ANS by
        have := hANS.out
        rw [List.drop_zero]
        unfold lookOf at this
        rw [hx0.out] at this ⊢
        simp only at this
        rw [if_pos ⟨HKEY.out, by rw [HSZ.out, hx0.out]⟩] at this
        exact this)
       clear hANS hkey' k1' k4' hsz' hx0 HKEY HSZ
       go_loopw [2, 4, 35] (fun d v i wr => ∃ (k dd : Nat) (S : List Hold), i = .int .i64 k ∧ d = .int .i64 dd ∧ k ≤ t.length ∧ dd ≤ 5000 ∧ Hid (OpenIs w.heap.size wr v S) ∧ Hid (lookGo vU (t.drop k) S k dd = ANS) ∧ Hid (Good t.length k S) ∧ Hid (Old w wr)) (fun _ _ i _ => t.length - (intOf i).toNat)
       case atStart => exact ⟨0, 0, _, rfl, rfl, by omega, by omega, hide (open_start w t.length), HSTART, hide (Good.start _), hide ((Old.refl w).alloc _)⟩
       case round =>
        clear HSTART
        obtain ⟨k, dd, S, rfl, rfl, hk, hdd, HOP, HGO, HGOOD, HO⟩ := hrel
        by_cases hlt : k < t.length
        · obtain ⟨d0, d1, d2, d3, d4⟩ := HC.out k hlt
          obtain ⟨X, hX⟩ : ∃ X, Hid (t[k] = X) := ⟨_, hide rfl⟩
          have HKX := hide (HK.out t[k] (List.getElem_mem hlt))
          have HDROP := hide (List.drop_eq_getElem_cons hlt)
          rw [hX.out] at d0 d1 d2 d3 d4 HKX HDROP
          have e0 := HO.out.cell d0
          have e1 := HO.out.cell d1
          have e2 := HO.out.cell d2
          have e3 := HO.out.cell d3
          have e4 := HO.out.cell d4
          clear d0 d1 d2 d3 d4 hX
          obtain ⟨h1, S1, hS⟩ := HGOOD.out.cons
          subst hS
          obtain ⟨m1, hm1⟩ : ∃ m, Hid (S1.length = m) := ⟨_, hide rfl⟩
          obtain ⟨g, cap, m0, rfl, t1, t2, t3, t4, t5, t6, t7⟩ := HOP.out.topM hm1.out
          clear t3 t4 t5 t6 t7
          unfold maxLen at t2
          go_wp2_with fail
          clear e0 e1 e2 e3 e4
          have HOP1 := hide (HOP.out.old ((Old.refl wr).alloc (.cells #[.int .i64 X.kind, .string X.key, .int .i64 X.n, .string X.s, .int .i64 X.size] 36)))
          go_loop [4] (fun v => ∃ S', Hid (OpenIs w.heap.size (wr.alloc (.cells #[.int .i64 X.kind, .string X.key, .int .i64 X.n, .string X.s, .int .i64 X.size] 36)) v S') ∧ Hid (popAll k S' = popAll k (h1 :: S1)) ∧ Hid (Good t.length k S')) (fun v => lenOf v)
          case atStart => exact ⟨_, HOP1, hide rfl, HGOOD⟩
          case round =>
           clear HOP1
           obtain ⟨S', HOP2, HPOP, G2⟩ := hrel
           obtain ⟨h2, S2, hS⟩ := G2.out.cons
           subst hS
           obtain ⟨m, hm⟩ : ∃ m, Hid (S2.length = m) := ⟨_, hide rfl⟩
           obtain ⟨g2, cap2, mv, rfl, c1, c2, c3, c4, c5, c6, c7⟩ := HOP2.out.topM hm.out
           unfold maxLen at c2
           have g1 := G2.out.1
           have hff := (G2.out.2.1 h2 (by simp)).1
           have hhad := (G2.out.2.1 h2 (by simp)).2
           obtain ⟨f, hf⟩ : ∃ f, Hid (h2.fin = f) := ⟨_, hide rfl⟩
           have HM := hide hm.out
           simp only [List.length_cons] at g1
           have HOP3 := hide HOP2.out
           rw [hm.out] at g1
           rw [hf.out] at c5 hff
           have HF := hide hf.out
           have C7 := hide c7
           clear c7 hm hf
           by_cases hfk : f = k
           · subst hfk
             have HPP := hide (show popAll f S2 = popAll f (h1 :: S1) by rw [← HPOP.out, popAll_fin HF.out])
             have GP := hide (G2.out.pop (by rw [HF.out]; exact hlt))
             have OPP := hide (HOP3.out.popM HM.out)
             clear hff
             go_wp2_with (fail)
             go_round
             case rel => exact ⟨S2, OPP, HPP, GP⟩
             case measure => simp [lenOf]
           · have hfk' : ((f : Int) == (k : Int)) = false := beq_eq_false_iff_ne.2 (by omega)
             have HSTEP := hide (show (if nodeB vU h2 k X then lookGo vU (t.drop (k + 1)) (pushed h2 S2 k X) (k + 1) (max dd (S2.length + 1)) else none) = ANS by
              have := HGO.out
              rw [HDROP.out, look_step (by rw [← HPOP.out]; exact popAll_else (by rw [HF.out]; exact hfk))] at this
              exact this)
             have CF := hide (show ∀ w', Old wr w' → Calls Tryz.prog 118 #[.agg #[.int .i64 X.kind, .string X.key, .int .i64 X.n, .string X.s, .int .i64 X.size]] w' fun e w2 => e = .returned (.bool (fitsB vU X)) ∧ Old w' w2 from fun w' h => fits_run X w' (by have := HKX.out.2; unfold maxLen at this; omega) (HT.out.old (Old.trans HO.out h)))
             have CV := hide (show ∀ w', Old wr w' → Calls Tryz.prog 66 #[.string X.key] w' fun e w2 => e = .returned (.bool (vU X.key)) ∧ Old w' w2 from fun w' h => utf_Valid X.key w' (by have := HKX.out.1; unfold maxLen at this; omega) (HT.out.old (Old.trans HO.out h)))
             clear hfk HGO HDROP HPOP
             rcases C7.out with ⟨rfl, ho⟩ | ⟨b, rfl, hbb, hkeys⟩
             · rw [kind_list ho] at c4
               have HOBJ := hide ho
               by_cases hA : X.size < 1
               · have hA' : decide (X.size < 1) = true := decide_eq_true hA
                 have NO := hide (show none = ANS by have := HSTEP.out; rwa [if_neg (nodeB_small hA)] at this)
                 have OX := hide (show Old w ((wr.alloc (.cells #[.int .i64 X.kind, .string X.key, .int .i64 X.n, .string X.s, .int .i64 X.size] 36)).alloc (.cells #[.int .i64 6, .int .i64 f, .map none] 165)) from Old.trans HO.out (((Old.refl wr).alloc _).alloc _))
                 go_wp2_with fail
                 go_ret2
                 exact ⟨by rw [← NO.out]; rfl, OX.out⟩
               · have hA' : decide (X.size < 1) = false := decide_eq_false hA
                 by_cases hB : (f : Int) - (k : Int) < X.size
                 · have hB' : decide ((f : Int) - (k : Int) < X.size) = true := decide_eq_true hB
                   have NO := hide (show none = ANS by have := HSTEP.out; rwa [if_neg (nodeB_great (by rw [HF.out]; exact hB))] at this)
                   have OX := hide (show Old w ((wr.alloc (.cells #[.int .i64 X.kind, .string X.key, .int .i64 X.n, .string X.s, .int .i64 X.size] 36)).alloc (.cells #[.int .i64 6, .int .i64 f, .map none] 165)) from Old.trans HO.out (((Old.refl wr).alloc _).alloc _))
                   go_wp2_with fail
                   go_ret2
                   exact ⟨by rw [← NO.out]; rfl, OX.out⟩
                 · have hB' : decide ((f : Int) - (k : Int) < X.size) = false := decide_eq_false hB
                   cases hfit : fitsB vU X
                   · rw [hfit] at CF
                     have NO := hide (show none = ANS by have := HSTEP.out; rwa [if_neg (nodeB_fits hfit)] at this)
                     have OX := hide (show Old w ((wr.alloc (.cells #[.int .i64 X.kind, .string X.key, .int .i64 X.n, .string X.s, .int .i64 X.size] 36)).alloc (.cells #[.int .i64 6, .int .i64 f, .map none] 165)) from Old.trans HO.out (((Old.refl wr).alloc _).alloc _))
                     clear hfit
                     go_wp2_with fail
                     refine (CF.out _ (((Old.refl wr).alloc _).alloc _)).mono ?_
                     rintro e w3 ⟨rfl, o3⟩
                     replace OX := hide (Old.trans OX.out o3)
                     clear o3
                     go_wp2_with fail
                     go_ret2
                     exact ⟨by rw [← NO.out]; rfl, OX.out⟩
                   · rw [hfit] at CF
                     have HFIT := hide hfit
                     clear hfit
                     go_wp2_with fail
                     refine (CF.out _ (((Old.refl wr).alloc _).alloc _)).mono ?_
                     rintro e w3 ⟨rfl, o3⟩
                     have y0 := o3.cell (show ((wr.alloc (.cells #[.int .i64 X.kind, .string X.key, .int .i64 X.n, .string X.s, .int .i64 X.size] 36)).alloc (.cells #[.int .i64 6, .int .i64 f, .map none] 165)).cell? ⟨wr.heap.size, 0, none⟩ = some (.int .i64 X.kind) by go_simp)
                     have y1 := o3.cell (show ((wr.alloc (.cells #[.int .i64 X.kind, .string X.key, .int .i64 X.n, .string X.s, .int .i64 X.size] 36)).alloc (.cells #[.int .i64 6, .int .i64 f, .map none] 165)).cell? ⟨wr.heap.size, 1, none⟩ = some (.string X.key) by go_simp)
                     have y4 := o3.cell (show ((wr.alloc (.cells #[.int .i64 X.kind, .string X.key, .int .i64 X.n, .string X.s, .int .i64 X.size] 36)).alloc (.cells #[.int .i64 6, .int .i64 f, .map none] 165)).cell? ⟨wr.heap.size, 4, none⟩ = some (.int .i64 X.size) by go_simp)
                     have z0 := o3.cell (show ((wr.alloc (.cells #[.int .i64 X.kind, .string X.key, .int .i64 X.n, .string X.s, .int .i64 X.size] 36)).alloc (.cells #[.int .i64 6, .int .i64 f, .map none] 165)).cell? ⟨wr.heap.size + 1, 0, none⟩ = some (.int .i64 6) by go_simp)
                     have z2 := o3.cell (show ((wr.alloc (.cells #[.int .i64 X.kind, .string X.key, .int .i64 X.n, .string X.s, .int .i64 X.size] 36)).alloc (.cells #[.int .i64 6, .int .i64 f, .map none] 165)).cell? ⟨wr.heap.size + 1, 2, none⟩ = some (.map none) by go_simp)
                     have O3 := hide (Old.trans (((Old.refl wr).alloc _).alloc _) o3)
                     have OO := hide (Old.trans HO.out O3.out)
                     have OE := hide (HOP3.out.old (Old.trans ((Old.refl _).alloc _) o3))
                     have c6' := Old.cell (Old.trans ((Old.refl _).alloc _) o3) c6
                     clear o3 c4 c5 c6
                     clear c6'
                     by_cases hkey : X.key = none_
                     · have hkey' : X.key.toList = [] := (str_none _).2 hkey
                       have YES := hide (nodeB_yes (h := h2) (k := k) (by omega) (by rw [HF.out]; omega) HFIT.out (by simp [keyB, HOBJ.out, hkey]))
                       replace OE := hide (show OpenIs w.heap.size w3 _ (h2.add X.key :: S2) by rw [add_list HOBJ.out]; exact OE.out)
                       clear hkey
                       go_upto_region 19 with (at_lookup; refine wpList_look_nil _ rfl _ _ 105 rfl Tryz.underlying105 rfl X.key rfl HKX.out.1 ?_)
                       have G3 := hide (good_step G2.out YES.out)
                       have HST := HSTEP.out
                       rw [if_pos YES.out] at HST
                       by_cases hk6 : 6 ≤ X.kind
                       · have HPU := hide (pushed_hold (h := h2) (S := S2) (i := k) hk6)
                         rw [HPU.out, HM.out] at HST
                         rw [HPU.out] at G3
                         have HST2 := hide HST
                         have HG3 := hide G3.out
                         clear HST G3
                         obtain ⟨sz, hsz⟩ : ∃ sz : Nat, X.size = sz := ⟨X.size.toNat, by omega⟩
                         rw [hsz] at y4 hB HST2 HG3
                         simp only [Int.toNat_natCast] at HST2 HG3
                         clear hsz hA
                         have hmm := @run_makeMap Tryz.prog
                         rcases (fits_kind HFIT.out hk6).1 with hkk | hkk
                         · rw [hkk] at y0 HST2 HG3
                           have hdec : decide ((6 : Int) = 7) = false := by decide
                           rw [hdec] at HST2 HG3
                           clear hkk hdec hk6
                           go_wp2_with (at_builtin; refine wpList_plain rfl (fun K hK => ?_); refine step_push_hold w3 _ _ _ rfl w.heap.size _ (h2.add X.key :: S2) rfl OE.out (((Old.refl _).alloc _).alloc _) ⟨false, k + sz, []⟩ w3.heap.size _ _ OO.out.size (Nat.le_refl _) ((keys_new w3).old ((Old.refl _).alloc _)) rfl (by rw [kind_list rfl]; go_simp) (by go_simp) (by go_simp) (by simp only [List.length_cons]; rw [HM.out]; omega) ?_; intro v6 w6 own6 low6; refine hK _ _ ?_; clear hK)
                           have O6 := hide (show Old w w6 from Below.trans ((OO.out.alloc _).alloc _) low6)
                           have OP6 := hide own6
                           clear own6 low6
                           go_roundw
                           case rel => exact ⟨k + 1, max dd (m + 1), _, by go_num, by go_num, by omega, by omega, OP6, HST2, HG3, O6⟩
                           case measure => simp [intOf]; omega
                         · rw [hkk] at y0 HST2 HG3
                           have hdec : decide ((7 : Int) = 7) = true := by decide
                           rw [hdec] at HST2 HG3
                           clear hkk hdec hk6
                           go_wp2_with (at_builtin; refine wpList_plain rfl (fun K hK => ?_); refine step_push_hold w3 _ _ _ rfl w.heap.size _ (h2.add X.key :: S2) rfl OE.out (((Old.refl _).alloc _).alloc _) ⟨true, k + sz, []⟩ w3.heap.size _ _ OO.out.size (Nat.le_refl _) ((keys_new w3).old ((Old.refl _).alloc _)) rfl (by rw [kind_obj rfl]; go_simp) (by go_simp) (by go_simp) (by simp only [List.length_cons]; rw [HM.out]; omega) ?_; intro v6 w6 own6 low6; refine hK _ _ ?_; clear hK)
                           have O6 := hide (show Old w w6 from Below.trans ((OO.out.alloc _).alloc _) low6)
                           have OP6 := hide own6
                           clear own6 low6
                           go_roundw
                           case rel => exact ⟨k + 1, max dd (m + 1), _, by go_num, by go_num, by omega, by omega, OP6, HST2, HG3, O6⟩
                           case measure => simp [intOf]; omega
                       · have hk6' : decide (6 ≤ X.kind) = false := decide_eq_false hk6
                         have HPU := hide (pushed_leaf (h := h2) (S := S2) (i := k) hk6)
                         rw [HPU.out, HM.out] at HST
                         rw [HPU.out] at G3
                         have HST2 := hide HST
                         clear HST hk6
                         go_wp2_with fail
                         go_roundw
                         case rel => exact ⟨k + 1, max dd (m + 1), _, by go_num, by go_num, by omega, by omega, OE, HST2, G3, OO⟩
                         case measure => simp [intOf]; omega
                     · have hkey' : ¬ X.key.toList = [] := fun h => hkey ((str_none _).1 h)
                       have hkey2 : X.key.toList.isEmpty = false := by simpa using hkey'
                       have NO := hide (show none = ANS by have := HSTEP.out; rwa [if_neg (nodeB_key (by simp [keyB, HOBJ.out, hkey]))] at this)
                       have OX := hide (OO.out)
                       clear hkey
                       go_wp2_with (at_lookup; refine wpList_look_nil _ rfl _ _ 105 rfl Tryz.underlying105 rfl X.key rfl HKX.out.1 ?_)
                       go_ret2
                       exact ⟨by rw [← NO.out]; rfl, OX.out⟩
             · have HBB := hide hbb
               have HKEYS := hide hkeys
               clear hbb hkeys
               cases ho : h2.obj
               · rw [kind_list ho] at c4
                 have HOBJ := hide ho
                 by_cases hA : X.size < 1
                 · have hA' : decide (X.size < 1) = true := decide_eq_true hA
                   have NO := hide (show none = ANS by have := HSTEP.out; rwa [if_neg (nodeB_small hA)] at this)
                   have OX := hide (show Old w ((wr.alloc (.cells #[.int .i64 X.kind, .string X.key, .int .i64 X.n, .string X.s, .int .i64 X.size] 36)).alloc (.cells #[.int .i64 6, .int .i64 f, .map (some b)] 165)) from Old.trans HO.out (((Old.refl wr).alloc _).alloc _))
                   go_wp2_with fail
                   go_ret2
                   exact ⟨by rw [← NO.out]; rfl, OX.out⟩
                 · have hA' : decide (X.size < 1) = false := decide_eq_false hA
                   by_cases hB : (f : Int) - (k : Int) < X.size
                   · have hB' : decide ((f : Int) - (k : Int) < X.size) = true := decide_eq_true hB
                     have NO := hide (show none = ANS by have := HSTEP.out; rwa [if_neg (nodeB_great (by rw [HF.out]; exact hB))] at this)
                     have OX := hide (show Old w ((wr.alloc (.cells #[.int .i64 X.kind, .string X.key, .int .i64 X.n, .string X.s, .int .i64 X.size] 36)).alloc (.cells #[.int .i64 6, .int .i64 f, .map (some b)] 165)) from Old.trans HO.out (((Old.refl wr).alloc _).alloc _))
                     go_wp2_with fail
                     go_ret2
                     exact ⟨by rw [← NO.out]; rfl, OX.out⟩
                   · have hB' : decide ((f : Int) - (k : Int) < X.size) = false := decide_eq_false hB
                     cases hfit : fitsB vU X
                     · rw [hfit] at CF
                       have NO := hide (show none = ANS by have := HSTEP.out; rwa [if_neg (nodeB_fits hfit)] at this)
                       have OX := hide (show Old w ((wr.alloc (.cells #[.int .i64 X.kind, .string X.key, .int .i64 X.n, .string X.s, .int .i64 X.size] 36)).alloc (.cells #[.int .i64 6, .int .i64 f, .map (some b)] 165)) from Old.trans HO.out (((Old.refl wr).alloc _).alloc _))
                       clear hfit
                       go_wp2_with fail
                       refine (CF.out _ (((Old.refl wr).alloc _).alloc _)).mono ?_
                       rintro e w3 ⟨rfl, o3⟩
                       replace OX := hide (Old.trans OX.out o3)
                       clear o3
                       go_wp2_with fail
                       go_ret2
                       exact ⟨by rw [← NO.out]; rfl, OX.out⟩
                     · rw [hfit] at CF
                       have HFIT := hide hfit
                       clear hfit
                       go_wp2_with fail
                       refine (CF.out _ (((Old.refl wr).alloc _).alloc _)).mono ?_
                       rintro e w3 ⟨rfl, o3⟩
                       have y0 := o3.cell (show ((wr.alloc (.cells #[.int .i64 X.kind, .string X.key, .int .i64 X.n, .string X.s, .int .i64 X.size] 36)).alloc (.cells #[.int .i64 6, .int .i64 f, .map (some b)] 165)).cell? ⟨wr.heap.size, 0, none⟩ = some (.int .i64 X.kind) by go_simp)
                       have y1 := o3.cell (show ((wr.alloc (.cells #[.int .i64 X.kind, .string X.key, .int .i64 X.n, .string X.s, .int .i64 X.size] 36)).alloc (.cells #[.int .i64 6, .int .i64 f, .map (some b)] 165)).cell? ⟨wr.heap.size, 1, none⟩ = some (.string X.key) by go_simp)
                       have y4 := o3.cell (show ((wr.alloc (.cells #[.int .i64 X.kind, .string X.key, .int .i64 X.n, .string X.s, .int .i64 X.size] 36)).alloc (.cells #[.int .i64 6, .int .i64 f, .map (some b)] 165)).cell? ⟨wr.heap.size, 4, none⟩ = some (.int .i64 X.size) by go_simp)
                       have z0 := o3.cell (show ((wr.alloc (.cells #[.int .i64 X.kind, .string X.key, .int .i64 X.n, .string X.s, .int .i64 X.size] 36)).alloc (.cells #[.int .i64 6, .int .i64 f, .map (some b)] 165)).cell? ⟨wr.heap.size + 1, 0, none⟩ = some (.int .i64 6) by go_simp)
                       have z2 := o3.cell (show ((wr.alloc (.cells #[.int .i64 X.kind, .string X.key, .int .i64 X.n, .string X.s, .int .i64 X.size] 36)).alloc (.cells #[.int .i64 6, .int .i64 f, .map (some b)] 165)).cell? ⟨wr.heap.size + 1, 2, none⟩ = some (.map (some b)) by go_simp)
                       have O3 := hide (Old.trans (((Old.refl wr).alloc _).alloc _) o3)
                       have OO := hide (Old.trans HO.out O3.out)
                       have OE := hide (HOP3.out.old (Old.trans ((Old.refl _).alloc _) o3))
                       have c6' := Old.cell (Old.trans ((Old.refl _).alloc _) o3) c6
                       have KY := hide (HKEYS.out.old (Old.trans ((Old.refl _).alloc _) o3))
                       clear o3 c4 c5 c6
                       skip
                       clear c6'
                       by_cases hkey : X.key = none_
                       · have hkey' : X.key.toList = [] := (str_none _).2 hkey
                         have YES := hide (nodeB_yes (h := h2) (k := k) (by omega) (by rw [HF.out]; omega) HFIT.out (by simp [keyB, HOBJ.out, hkey]))
                         replace OE := hide (show OpenIs w.heap.size w3 _ (h2.add X.key :: S2) by rw [add_list HOBJ.out]; exact OE.out)
                         clear hkey
                         go_upto_region 19 with (at_lookup; refine wpList_look_keys _ rfl _ _ 105 rfl Tryz.underlying105 b h2.had rfl KY.out X.key rfl HKX.out.1 ?_; intro c0)
                         have G3 := hide (good_step G2.out YES.out)
                         have HST := HSTEP.out
                         rw [if_pos YES.out] at HST
                         by_cases hk6 : 6 ≤ X.kind
                         · have HPU := hide (pushed_hold (h := h2) (S := S2) (i := k) hk6)
                           rw [HPU.out, HM.out] at HST
                           rw [HPU.out] at G3
                           have HST2 := hide HST
                           have HG3 := hide G3.out
                           clear HST G3
                           obtain ⟨sz, hsz⟩ : ∃ sz : Nat, X.size = sz := ⟨X.size.toNat, by omega⟩
                           rw [hsz] at y4 hB HST2 HG3
                           simp only [Int.toNat_natCast] at HST2 HG3
                           clear hsz hA
                           have hmm := @run_makeMap Tryz.prog
                           rcases (fits_kind HFIT.out hk6).1 with hkk | hkk
                           · rw [hkk] at y0 HST2 HG3
                             have hdec : decide ((6 : Int) = 7) = false := by decide
                             rw [hdec] at HST2 HG3
                             clear hkk hdec hk6
                             go_wp2_with (at_builtin; refine wpList_plain rfl (fun K hK => ?_); refine step_push_hold w3 _ _ _ rfl w.heap.size _ (h2.add X.key :: S2) rfl OE.out (((Old.refl _).alloc _).alloc _) ⟨false, k + sz, []⟩ w3.heap.size _ _ OO.out.size (Nat.le_refl _) ((keys_new w3).old ((Old.refl _).alloc _)) rfl (by rw [kind_list rfl]; go_simp) (by go_simp) (by go_simp) (by simp only [List.length_cons]; rw [HM.out]; omega) ?_; intro v6 w6 own6 low6; refine hK _ _ ?_; clear hK)
                             have O6 := hide (show Old w w6 from Below.trans ((OO.out.alloc _).alloc _) low6)
                             have OP6 := hide own6
                             clear own6 low6
                             go_roundw
                             case rel => exact ⟨k + 1, max dd (m + 1), _, by go_num, by go_num, by omega, by omega, OP6, HST2, HG3, O6⟩
                             case measure => simp [intOf]; omega
                           · rw [hkk] at y0 HST2 HG3
                             have hdec : decide ((7 : Int) = 7) = true := by decide
                             rw [hdec] at HST2 HG3
                             clear hkk hdec hk6
                             go_wp2_with (at_builtin; refine wpList_plain rfl (fun K hK => ?_); refine step_push_hold w3 _ _ _ rfl w.heap.size _ (h2.add X.key :: S2) rfl OE.out (((Old.refl _).alloc _).alloc _) ⟨true, k + sz, []⟩ w3.heap.size _ _ OO.out.size (Nat.le_refl _) ((keys_new w3).old ((Old.refl _).alloc _)) rfl (by rw [kind_obj rfl]; go_simp) (by go_simp) (by go_simp) (by simp only [List.length_cons]; rw [HM.out]; omega) ?_; intro v6 w6 own6 low6; refine hK _ _ ?_; clear hK)
                             have O6 := hide (show Old w w6 from Below.trans ((OO.out.alloc _).alloc _) low6)
                             have OP6 := hide own6
                             clear own6 low6
                             go_roundw
                             case rel => exact ⟨k + 1, max dd (m + 1), _, by go_num, by go_num, by omega, by omega, OP6, HST2, HG3, O6⟩
                             case measure => simp [intOf]; omega
                         · have hk6' : decide (6 ≤ X.kind) = false := decide_eq_false hk6
                           have HPU := hide (pushed_leaf (h := h2) (S := S2) (i := k) hk6)
                           rw [HPU.out, HM.out] at HST
                           rw [HPU.out] at G3
                           have HST2 := hide HST
                           clear HST hk6
                           go_wp2_with fail
                           go_roundw
                           case rel => exact ⟨k + 1, max dd (m + 1), _, by go_num, by go_num, by omega, by omega, OE, HST2, G3, OO⟩
                           case measure => simp [intOf]; omega
                       · have hkey' : ¬ X.key.toList = [] := fun h => hkey ((str_none _).1 h)
                         have hkey2 : X.key.toList.isEmpty = false := by simpa using hkey'
                         have NO := hide (show none = ANS by have := HSTEP.out; rwa [if_neg (nodeB_key (by simp [keyB, HOBJ.out, hkey]))] at this)
                         have OX := hide (OO.out)
                         clear hkey
                         go_wp2_with (at_lookup; refine wpList_look_keys _ rfl _ _ 105 rfl Tryz.underlying105 b h2.had rfl KY.out X.key rfl HKX.out.1 ?_; intro c0)
                         go_ret2
                         exact ⟨by rw [← NO.out]; rfl, OX.out⟩
               · rw [kind_obj ho] at c4
                 have HOBJ := hide ho
                 by_cases hA : X.size < 1
                 · have hA' : decide (X.size < 1) = true := decide_eq_true hA
                   have NO := hide (show none = ANS by have := HSTEP.out; rwa [if_neg (nodeB_small hA)] at this)
                   have OX := hide (show Old w ((wr.alloc (.cells #[.int .i64 X.kind, .string X.key, .int .i64 X.n, .string X.s, .int .i64 X.size] 36)).alloc (.cells #[.int .i64 7, .int .i64 f, .map (some b)] 165)) from Old.trans HO.out (((Old.refl wr).alloc _).alloc _))
                   go_wp2_with fail
                   go_ret2
                   exact ⟨by rw [← NO.out]; rfl, OX.out⟩
                 · have hA' : decide (X.size < 1) = false := decide_eq_false hA
                   by_cases hB : (f : Int) - (k : Int) < X.size
                   · have hB' : decide ((f : Int) - (k : Int) < X.size) = true := decide_eq_true hB
                     have NO := hide (show none = ANS by have := HSTEP.out; rwa [if_neg (nodeB_great (by rw [HF.out]; exact hB))] at this)
                     have OX := hide (show Old w ((wr.alloc (.cells #[.int .i64 X.kind, .string X.key, .int .i64 X.n, .string X.s, .int .i64 X.size] 36)).alloc (.cells #[.int .i64 7, .int .i64 f, .map (some b)] 165)) from Old.trans HO.out (((Old.refl wr).alloc _).alloc _))
                     go_wp2_with fail
                     go_ret2
                     exact ⟨by rw [← NO.out]; rfl, OX.out⟩
                   · have hB' : decide ((f : Int) - (k : Int) < X.size) = false := decide_eq_false hB
                     cases hfit : fitsB vU X
                     · rw [hfit] at CF
                       have NO := hide (show none = ANS by have := HSTEP.out; rwa [if_neg (nodeB_fits hfit)] at this)
                       have OX := hide (show Old w ((wr.alloc (.cells #[.int .i64 X.kind, .string X.key, .int .i64 X.n, .string X.s, .int .i64 X.size] 36)).alloc (.cells #[.int .i64 7, .int .i64 f, .map (some b)] 165)) from Old.trans HO.out (((Old.refl wr).alloc _).alloc _))
                       clear hfit
                       go_wp2_with fail
                       refine (CF.out _ (((Old.refl wr).alloc _).alloc _)).mono ?_
                       rintro e w3 ⟨rfl, o3⟩
                       replace OX := hide (Old.trans OX.out o3)
                       clear o3
                       go_wp2_with fail
                       go_ret2
                       exact ⟨by rw [← NO.out]; rfl, OX.out⟩
                     · rw [hfit] at CF
                       have HFIT := hide hfit
                       clear hfit
                       go_wp2_with fail
                       refine (CF.out _ (((Old.refl wr).alloc _).alloc _)).mono ?_
                       rintro e w3 ⟨rfl, o3⟩
                       have y0 := o3.cell (show ((wr.alloc (.cells #[.int .i64 X.kind, .string X.key, .int .i64 X.n, .string X.s, .int .i64 X.size] 36)).alloc (.cells #[.int .i64 7, .int .i64 f, .map (some b)] 165)).cell? ⟨wr.heap.size, 0, none⟩ = some (.int .i64 X.kind) by go_simp)
                       have y1 := o3.cell (show ((wr.alloc (.cells #[.int .i64 X.kind, .string X.key, .int .i64 X.n, .string X.s, .int .i64 X.size] 36)).alloc (.cells #[.int .i64 7, .int .i64 f, .map (some b)] 165)).cell? ⟨wr.heap.size, 1, none⟩ = some (.string X.key) by go_simp)
                       have y4 := o3.cell (show ((wr.alloc (.cells #[.int .i64 X.kind, .string X.key, .int .i64 X.n, .string X.s, .int .i64 X.size] 36)).alloc (.cells #[.int .i64 7, .int .i64 f, .map (some b)] 165)).cell? ⟨wr.heap.size, 4, none⟩ = some (.int .i64 X.size) by go_simp)
                       have z0 := o3.cell (show ((wr.alloc (.cells #[.int .i64 X.kind, .string X.key, .int .i64 X.n, .string X.s, .int .i64 X.size] 36)).alloc (.cells #[.int .i64 7, .int .i64 f, .map (some b)] 165)).cell? ⟨wr.heap.size + 1, 0, none⟩ = some (.int .i64 7) by go_simp)
                       have z2 := o3.cell (show ((wr.alloc (.cells #[.int .i64 X.kind, .string X.key, .int .i64 X.n, .string X.s, .int .i64 X.size] 36)).alloc (.cells #[.int .i64 7, .int .i64 f, .map (some b)] 165)).cell? ⟨wr.heap.size + 1, 2, none⟩ = some (.map (some b)) by go_simp)
                       have O3 := hide (Old.trans (((Old.refl wr).alloc _).alloc _) o3)
                       have OO := hide (Old.trans HO.out O3.out)
                       have OE := hide (HOP3.out.old (Old.trans ((Old.refl _).alloc _) o3))
                       have c6' := Old.cell (Old.trans ((Old.refl _).alloc _) o3) c6
                       have KY := hide (HKEYS.out.old (Old.trans ((Old.refl _).alloc _) o3))
                       clear o3 c4 c5 c6
                       cases hh : hasKey h2.had X.key
                       · have HH := hide hh
                         clear hh
                         cases hv : vU X.key
                         · rw [hv] at CV
                           have NO := hide (show none = ANS by have := HSTEP.out; rwa [if_neg (nodeB_key (by simp [keyB, HOBJ.out, hv]))] at this)
                           have OX := hide (OO.out)
                           clear hv
                           go_wp2_with (at_lookup; refine wpList_look_keysC _ rfl _ _ 105 rfl Tryz.underlying105 b h2.had rfl KY.out X.key rfl HKX.out.1 false HH.out ?_; intro c0)
                           refine (CV.out _ O3.out).mono ?_
                           rintro e w4 ⟨rfl, o4⟩
                           replace OX := hide (Old.trans OX.out o4)
                           clear o4
                           go_wp2_with fail
                           go_ret2
                           exact ⟨by rw [← NO.out]; rfl, OX.out⟩
                         · rw [hv] at CV
                           have YES := hide (nodeB_yes (h := h2) (k := k) (by omega) (by rw [HF.out]; omega) HFIT.out (by simp [keyB, HOBJ.out, HH.out, hv]))
                           clear hv
                           go_wp2_with (at_lookup; refine wpList_look_keysC _ rfl _ _ 105 rfl Tryz.underlying105 b h2.had rfl KY.out X.key rfl HKX.out.1 false HH.out ?_; intro c0)
                           refine (CV.out _ O3.out).mono ?_
                           rintro e w4 ⟨rfl, o4⟩
                           have Y0 := hide (o4.cell y0)
                           have Y1 := hide (o4.cell y1)
                           have Y4 := hide (o4.cell y4)
                           have Z2 := hide (o4.cell z2)
                           have C6 := hide (o4.cell c6')
                           have KY4 := hide (KY.out.old o4)
                           replace OE := hide (OE.out.old o4)
                           replace OO := hide (Old.trans OO.out o4)
                           clear o4 y0 y1 y4 z0 z2 c6'
                           have y1 := Y1.out
                           have z2 := Z2.out
                           have hn63 : h2.had.length < maxLen := by unfold maxLen; omega
                           go_upto_region 19 with (at_mapUpdate; refine wpList_put_keys _ rfl _ _ _ 105 rfl Tryz.underlying105 b h2.had rfl KY4.out hn63 X.key rfl HKX.out.1 k rfl (WalkArith.wf_i64 (by omega)) ?_; intro w5 K5 G5)
                           have y0 := grown_cell G5 Y0.out (keys_ne KY4.out Y0.out)
                           have y4 := grown_cell G5 Y4.out (keys_ne KY4.out Y4.out)
                           replace OE := hide (OE.out.putM HM.out HOBJ.out G5 K5 C6.out)
                           replace OO := hide (grown_old OO.out G5 HBB.out)
                           clear y1 z2 Y0 Y1 Y4 Z2 C6 K5 G5 KY4 KY
                           have G3 := hide (good_step G2.out YES.out)
                           have HST := HSTEP.out
                           rw [if_pos YES.out] at HST
                           by_cases hk6 : 6 ≤ X.kind
                           · have HPU := hide (pushed_hold (h := h2) (S := S2) (i := k) hk6)
                             rw [HPU.out, HM.out] at HST
                             rw [HPU.out] at G3
                             have HST2 := hide HST
                             have HG3 := hide G3.out
                             clear HST G3
                             obtain ⟨sz, hsz⟩ : ∃ sz : Nat, X.size = sz := ⟨X.size.toNat, by omega⟩
                             rw [hsz] at y4 hB HST2 HG3
                             simp only [Int.toNat_natCast] at HST2 HG3
                             clear hsz hA
                             have hmm := @run_makeMap Tryz.prog
                             rcases (fits_kind HFIT.out hk6).1 with hkk | hkk
                             · rw [hkk] at y0 HST2 HG3
                               have hdec : decide ((6 : Int) = 7) = false := by decide
                               rw [hdec] at HST2 HG3
                               clear hkk hdec hk6
                               go_wp2_with (at_builtin; refine wpList_plain rfl (fun K hK => ?_); refine step_push_hold w5 _ _ _ rfl w.heap.size _ (h2.add X.key :: S2) rfl OE.out (((Old.refl _).alloc _).alloc _) ⟨false, k + sz, []⟩ w5.heap.size _ _ OO.out.size (Nat.le_refl _) ((keys_new w5).old ((Old.refl _).alloc _)) rfl (by rw [kind_list rfl]; go_simp) (by go_simp) (by go_simp) (by simp only [List.length_cons]; rw [HM.out]; omega) ?_; intro v6 w6 own6 low6; refine hK _ _ ?_; clear hK)
                               have O6 := hide (show Old w w6 from Below.trans ((OO.out.alloc _).alloc _) low6)
                               have OP6 := hide own6
                               clear own6 low6
                               go_roundw
                               case rel => exact ⟨k + 1, max dd (m + 1), _, by go_num, by go_num, by omega, by omega, OP6, HST2, HG3, O6⟩
                               case measure => simp [intOf]; omega
                             · rw [hkk] at y0 HST2 HG3
                               have hdec : decide ((7 : Int) = 7) = true := by decide
                               rw [hdec] at HST2 HG3
                               clear hkk hdec hk6
                               go_wp2_with (at_builtin; refine wpList_plain rfl (fun K hK => ?_); refine step_push_hold w5 _ _ _ rfl w.heap.size _ (h2.add X.key :: S2) rfl OE.out (((Old.refl _).alloc _).alloc _) ⟨true, k + sz, []⟩ w5.heap.size _ _ OO.out.size (Nat.le_refl _) ((keys_new w5).old ((Old.refl _).alloc _)) rfl (by rw [kind_obj rfl]; go_simp) (by go_simp) (by go_simp) (by simp only [List.length_cons]; rw [HM.out]; omega) ?_; intro v6 w6 own6 low6; refine hK _ _ ?_; clear hK)
                               have O6 := hide (show Old w w6 from Below.trans ((OO.out.alloc _).alloc _) low6)
                               have OP6 := hide own6
                               clear own6 low6
                               go_roundw
                               case rel => exact ⟨k + 1, max dd (m + 1), _, by go_num, by go_num, by omega, by omega, OP6, HST2, HG3, O6⟩
                               case measure => simp [intOf]; omega
                           · have hk6' : decide (6 ≤ X.kind) = false := decide_eq_false hk6
                             have HPU := hide (pushed_leaf (h := h2) (S := S2) (i := k) hk6)
                             rw [HPU.out, HM.out] at HST
                             rw [HPU.out] at G3
                             have HST2 := hide HST
                             clear HST hk6
                             go_wp2_with fail
                             go_roundw
                             case rel => exact ⟨k + 1, max dd (m + 1), _, by go_num, by go_num, by omega, by omega, OE, HST2, G3, OO⟩
                             case measure => simp [intOf]; omega
                       · have HH := hide hh
                         have NO := hide (show none = ANS by have := HSTEP.out; rwa [if_neg (nodeB_key (by simp [keyB, HOBJ.out, hh]))] at this)
                         have OX := hide (OO.out)
                         clear hh
                         go_wp2_with (at_lookup; refine wpList_look_keysC _ rfl _ _ 105 rfl Tryz.underlying105 b h2.had rfl KY.out X.key rfl HKX.out.1 true HH.out ?_; intro c0)
                         go_ret2
                         exact ⟨by rw [← NO.out]; rfl, OX.out⟩
        · have DONE := hide (show some dd = ANS by have := HGO.out; rwa [List.drop_of_length_le (by omega), lookGo] at this)
          go_wp2_with fail
          go_ret2
          exact ⟨by rw [← DONE.out]; rfl, HO.out⟩
     · have hsz' : (x0.size != (t.length : Int)) = true := by simpa using hsz
       have E := hide (look_no_size hx0.out (fun h => hsz h.2))
       clear hsz
       go_enter Tryz.func91, Tryz.ntmps91
       go_wp2_with fail
       go_ret2
       exact ⟨by rw [E.out]; rfl, Old.refl _⟩
   · have hkey' : ¬ x0.key.toList = [] := fun h => hkey ((str_none _).1 h)
     have E := hide (look_no_size hx0.out (fun h => hkey h.1))
     clear hkey
     go_enter Tryz.func91, Tryz.ntmps91
     go_wp2_with fail
     go_ret2
     exact ⟨by rw [E.out]; rfl, Old.refl _⟩
end Go.Proofs.YthlfljmfggmfdaaGreatDoor
