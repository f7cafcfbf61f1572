/-  -/
import Derived.Test.YthlfljmfggmfdaaGreatDoorQf05
import Derived.Test.YthlfljmfggmfdaaGreatDoorQf02
import Derived.Test.YthlfljmfggmfdaaGreatDoorProg
import Derived.Laws.BytesArg
import Derived.Test.YthlfljmfggmfdaaGreatDoorQf04
import Derived.Test.YthlfljmfggmfdaaGreatDoorQf03
import Derived.Deep.RegionHeld3
/-! ###  -/
namespace Go.Proofs.YthlfljmfggmfdaaGreatDoor
open Go.RowKit
def chkT (t : List Nd) : Int := if 4000 < t.length then 5 else match lookOf vU t with
 | none => 60
 | some d => if 64 < d then 72 else 0
def deepT (t : List Nd) : Nat := if chkT t = 0 then (lookOf vU t).getD 0 else 0
def May (t : List Nd) (j : J) : Prop := Tape vU j t ∧ t.length ≤ 4000 ∧ j.deep ≤ 64
theorem chkT_may {t : List Nd} {j : J} (h : May t j) : chkT t = 0 := by
 unfold chkT
 rw [if_neg (by have := h.2.1; omega), look_yes h.1]
 simp only
 rw [if_neg (by have := h.2.2; omega)]
theorem deepT_may {t : List Nd} {j : J} (h : May t j) : deepT t = j.deep := by
 unfold deepT
 rw [if_pos (chkT_may h), look_yes h.1]
 rfl
theorem may_of {t : List Nd} (h : chkT t = 0) : ∃ j, May t j := by
 unfold chkT at h
 split at h
 · omega
 · split at h
   · omega
   · rename_i d e
     split at h
     · omega
     · obtain ⟨j, hj⟩ := look_no e
       refine ⟨j, hj, by omega, ?_⟩
       rw [look_yes hj] at e
       injection e with e
       omega
theorem Sl.form {w : World} {v : Value} {n : Nat} {xs : List Value} (h : Sl w v n xs) : ∃ A cap, v = .slice A n cap ∧ n ≤ cap ∧ cap ≤ maxLen := by
 obtain ⟨A, cap, rfl, h1, h2, _⟩ := h
 exact ⟨A, cap, rfl, h1, h2⟩
set_option maxRecDepth 100000 in
set_option maxHeartbeats 400000 in
theorem check_run (v : Value) (t : List Nd) (w : World) (ht : NodesIs w v t) (hk : TextsOk t) (hT : Tabs w) :
 Calls Tryz.prog 44 #[v] w fun e w' => e = .returned (.int .i64 (chkT t)) ∧ Old w w' := by
 have CL := hide (show t.length ≤ 4000 → Calls Tryz.prog 91 #[v] w fun e w' => e = .returned (lookVal (lookOf vU t)) ∧ Old w w' from fun h => look_run v t w ht h hk hT)
 obtain ⟨A, cap, rfl, h1, h2⟩ := ht.form
 unfold maxLen at h2
 clear ht hk hT
 by_cases hl : 4000 < t.length
 · have hl' : (4000 : Int) < (t.length : Int) := by omega
   have E := hide (show chkT t = 5 by unfold chkT; rw [if_pos hl])
   clear CL
   go_enter Tryz.func44, Tryz.ntmps44
   go_wp2_with fail
   go_ret
   exact ⟨ret_int E.out.symm, Old.refl _⟩
 · have hl' : ¬ (4000 : Int) < (t.length : Int) := by omega
   have C := hide (CL.out (by omega))
   have E : chkT t = match lookOf vU t with | none => 60 | some d => if 64 < d then 72 else 0 := by unfold chkT; rw [if_neg hl]
   clear CL
   cases e : lookOf vU t with
   | none =>
     rw [e] at C E
     have E := hide E
     simp only [lookVal] at C
     clear e
     go_enter Tryz.func44, Tryz.ntmps44
     go_wp2_with fail
     refine C.out.mono ?_
     rintro e w1 ⟨rfl, o1⟩
     go_wp2_with fail
     go_ret
     exact ⟨ret_int E.out.symm, o1⟩
   | some d =>
     rw [e] at C E
     simp only [lookVal] at C
     simp only at E
     clear e
     by_cases hd : 64 < d
     · have hd' : (64 : Int) < (d : Int) := by omega
       rw [if_pos hd] at E
       have E := hide E
       go_enter Tryz.func44, Tryz.ntmps44
       go_wp2_with fail
       refine C.out.mono ?_
       rintro e w1 ⟨rfl, o1⟩
       go_wp2_with fail
       go_ret
       exact ⟨ret_int E.out.symm, o1⟩
     · have hd' : ¬ (64 : Int) < (d : Int) := by omega
       rw [if_neg hd] at E
       have E := hide E
       go_enter Tryz.func44, Tryz.ntmps44
       go_wp2_with fail
       refine C.out.mono ?_
       rintro e w1 ⟨rfl, o1⟩
       go_wp2_with fail
       go_ret
       exact ⟨ret_int E.out.symm, o1⟩
theorem num_as {f : FuncId} {args : Array Value} {w : World} {n n' : Int} (h : Calls Tryz.prog f args w fun e w' => e = .returned (.int .i64 n) ∧ Old w w') (e : n = n') : Calls Tryz.prog f args w fun e w' => e = .returned (.int .i64 n') ∧ Old w w' := by
 subst e
 exact h
set_option maxRecDepth 100000 in
set_option maxHeartbeats 400000 in
theorem deep_run (v : Value) (t : List Nd) (w : World) (ht : NodesIs w v t) (hk : TextsOk t) (hT : Tabs w) :
 Calls Tryz.prog 106 #[v] w fun e w' => e = .returned (.int .i64 (deepT t)) ∧ Old w w' := by
 have CC := hide (check_run v t w ht hk hT)
 by_cases hc : chkT t = 0
 · obtain ⟨j, hj⟩ := may_of hc
   have CL := hide (show ∀ w', Old w w' → Calls Tryz.prog 91 #[v] w' fun e w2 => e = .returned (.tuple #[.int .i64 j.deep, .bool true]) ∧ Old w' w2 from fun w' h => by
    have := look_run v t w' (ht.old h) hj.2.1 hk (hT.old h)
    rwa [look_yes hj.1] at this)
   have E := hide (deepT_may hj)
   have C0 := hide (num_as CC.out hc)
   clear ht hk hT CC hc
   go_enter Tryz.func106, Tryz.ntmps106
   go_wp2_with fail
   refine C0.out.mono ?_
   rintro e w1 ⟨rfl, o1⟩
   go_wp2_with fail
   refine (CL.out _ o1).mono ?_
   rintro e w2 ⟨rfl, o2⟩
   go_wp2_with fail
   go_ret
   exact ⟨ret_int (by rw [E.out]), Old.trans o1 o2⟩
 · have hc' : (chkT t != 0) = true := by simpa using hc
   have E := hide (show deepT t = 0 by unfold deepT; rw [if_neg hc])
   clear ht hk hT hc
   go_enter Tryz.func106, Tryz.ntmps106
   go_wp2_with fail
   refine CC.out.mono ?_
   rintro e w1 ⟨rfl, o1⟩
   go_wp2_with fail
   go_ret
   exact ⟨ret_int (by rw [E.out]; rfl), o1⟩
end Go.Proofs.YthlfljmfggmfdaaGreatDoor
namespace Go.Proofs.YthlfljmfggmfdaaGreatDoor
open Go.RowKit
def NewNodes (w0 : World) (l : List Nd) (e : Ending) (w' : World) : Prop := ∃ v, e = .returned v ∧ NodesT w0.heap.size w' v l ∧ Old w0 w'
def leafT (kind n : Int) (s : ByteArray) : List Nd := [⟨kind, none_, n, s, 1⟩]
theorem heap_new (w : World) (o : Obj) (n : Nat) (h : w.heap.size = n) : (w.alloc o).heap[n]? = some o := by
 subst h
 exact heap_alloc_new w o
theorem one_node (w : World) (x : Nd) (n : Nat) (h : w.heap.size = n) (lo : Nat) (hlo : lo ≤ n) : NodesT lo (w.alloc (.cells #[.int .i64 x.kind, .string x.key, .int .i64 x.n, .string x.s, .int .i64 x.size] 36)) (.slice (some ⟨n, 0, none⟩) 1 1) [x] := by
 refine ⟨_, _, rfl, Nat.le_refl _, by unfold maxLen; omega, fun _ => ⟨n, 0, _, rfl, hlo, heap_new _ _ _ h, fun j u hu => ?_⟩⟩
 rw [ndVals_one] at hu
 rw [Nat.zero_add]
 simpa [Nd.vals] using hu
set_option maxRecDepth 100000 in
theorem leaf_run (kind n : Int) (s : ByteArray) (w : World) : Calls Tryz.prog 69 #[.int .i64 kind, .int .i64 n, .string s] w (NewNodes w (leafT kind n s)) := by
 go_enter Tryz.func69, Tryz.ntmps69
 go_wp2_with fail
 go_ret
 exact ⟨_, rfl, one_node w ⟨kind, none_, n, s, 1⟩ _ rfl _ (Nat.le_refl _), (Old.refl w).alloc _⟩
set_option maxRecDepth 100000 in
theorem null_run (w : World) : Calls Tryz.prog 32 #[] w (NewNodes w (leafT 1 0 none_)) := by
 have C := hide (leaf_run 1 0 none_ w)
 go_enter Tryz.func32, Tryz.ntmps32
 go_wp2_with fail
 refine C.out.mono ?_
 rintro e w1 ⟨v, rfl, h1, h2⟩
 go_wp2_with fail
 go_ret
 exact ⟨_, rfl, h1, h2⟩
set_option maxRecDepth 100000 in
theorem num_run (n : Int) (w : World) : Calls Tryz.prog 114 #[.int .i64 n] w (NewNodes w (leafT 4 n none_)) := by
 have C := hide (leaf_run 4 n none_ w)
 go_enter Tryz.func114, Tryz.ntmps114
 go_wp2_with fail
 refine C.out.mono ?_
 rintro e w1 ⟨v, rfl, h1, h2⟩
 go_wp2_with fail
 go_ret
 exact ⟨_, rfl, h1, h2⟩
set_option maxRecDepth 100000 in
theorem bool_run (b : Bool) (w : World) : Calls Tryz.prog 113 #[.bool b] w (NewNodes w (leafT (if b then 3 else 2) 0 none_)) := by
 cases b
 · have C := hide (leaf_run 2 0 none_ w)
   go_enter Tryz.func113, Tryz.ntmps113
   go_wp2_with fail
   refine C.out.mono ?_
   rintro e w1 ⟨v, rfl, h1, h2⟩
   go_wp2_with fail
   go_ret
   exact ⟨_, rfl, h1, h2⟩
 · have C := hide (leaf_run 3 0 none_ w)
   go_enter Tryz.func113, Tryz.ntmps113
   go_wp2_with fail
   refine C.out.mono ?_
   rintro e w1 ⟨v, rfl, h1, h2⟩
   go_wp2_with fail
   go_ret
   exact ⟨_, rfl, h1, h2⟩
def strT (s : ByteArray) : List Nd := if vU s then leafT 5 0 s else []
set_option maxRecDepth 100000 in
theorem str_run (s : ByteArray) (w : World) (hs : s.size ≤ 9223372036854775807) (hT : Tabs w) : Calls Tryz.prog 28 #[.string s] w (NewNodes w (strT s)) := by
 have C := hide (show ∀ w', Old w w' → Calls Tryz.prog 69 #[.int .i64 5, .int .i64 0, .string s] w' fun e w2 => ∃ v, e = .returned v ∧ NodesT w.heap.size w2 v (leafT 5 0 s) ∧ Old w w2 from fun w' h =>
  (leaf_run 5 0 s w').mono fun _ _ ⟨v, h1, h2, h3⟩ => ⟨v, h1, h2.mono h.size, Old.trans h h3⟩)
 have CV := hide (utf_Valid s w hs hT)
 cases hv : vU s
 · rw [hv] at CV
   have E := hide (show strT s = [] by unfold strT; rw [hv]; rfl)
   clear hs hT hv C
   go_enter Tryz.func28, Tryz.ntmps28
   go_wp2_with fail
   refine CV.out.mono ?_
   rintro e w1 ⟨rfl, o1⟩
   go_wp2_with fail
   go_ret
   exact ⟨_, rfl, by rw [E.out]; exact SlT.nil_ _, o1⟩
 · rw [hv] at CV
   have E := hide (show strT s = leafT 5 0 s by unfold strT; rw [hv]; rfl)
   clear hs hT hv
   go_enter Tryz.func28, Tryz.ntmps28
   go_wp2_with fail
   refine CV.out.mono ?_
   rintro e w1 ⟨rfl, o1⟩
   go_wp2_with fail
   refine (C.out _ o1).mono ?_
   rintro e w2 ⟨v, rfl, h1, h2⟩
   go_wp2_with fail
   go_ret
   exact ⟨_, rfl, by rw [E.out]; exact h1, h2⟩
end Go.Proofs.YthlfljmfggmfdaaGreatDoor
namespace Go.Proofs.YthlfljmfggmfdaaGreatDoor
open Go.RowKit
def intVals (l : List Nat) : List Value := l.map (fun n : Nat => Value.int .i64 (n : Int))
theorem intVals_append (l m : List Nat) : intVals (l ++ m) = intVals l ++ intVals m := by simp [intVals]
abbrev IntsT (lo : Nat) (w : World) (v : Value) (l : List Nat) : Prop := SlT 3 lo w v l.length (intVals l)
abbrev IntsOwn (base : Nat) (w : World) (v : Value) (l : List Nat) : Prop := w.ownsRow base 3 1 v l.length (intVals l)
def NewInts (w0 : World) (l : List Nat) (e : Ending) (w' : World) : Prop := ∃ v, e = .returned v ∧ IntsT w0.heap.size w' v l ∧ Old w0 w'
theorem intInfo : (Tryz.prog.info? 3).map (fun i => (i.zero, i.size, i.bytes)) = some (some (.int .i64 0), 1, 8) := by kernel_rfl
theorem step_push_int {o : Oper} {a : Act} {K : Act → World → Prop} {Q : Exit → Act → World → Prop} (w : World) (s x : Operand)
 (ho : o.op = .call { callee := .builtin .append, args := #[s, x], argTypes := #[61, 61] })
 (base : Nat) (v : Value) (l : List Nat) (hs : a.eval s = v) (hown : IntsOwn base w v l) (g cap n : Nat) (hx : a.eval x = .slice (some ⟨g, 0, none⟩) 1 cap) (h0 : w.cell? ⟨g, 0, none⟩ = some (.int .i64 n))
 (hlen : l.length + 1 ≤ 4194304) (hbase : base ≤ w.heap.size)
 (h : ∀ v' w', IntsOwn base w' v' (l ++ [n]) → Kept 3 base w w' → K (a.put o.dst v') w') : o.wp Tryz.prog a w K Q := by
 obtain ⟨i0, hi, hz0, hz1, hz2⟩ := info_parts intInfo
 refine wp_append_own w s x 61 ho base 3 i0 (.int .i64 0) 1 8 Tryz.underlying61 hi hz0 hz1 hz2 rfl (by omega) v l.length (intVals l) hs hown ⟨g, 0, none⟩ 1 cap [.int .i64 n] hx rfl ?_ ?_ (by unfold maxLen; omega) (by omega) hbase ?_
 · intro j u hu
   match j, hu with
   | 0, hu => simp at hu; subst hu; exact h0
   | j + 1, hu => simp at hu
 · intro u hu
   simp at hu
   subst hu
   rfl
 · intro v' w' own' hg _
   refine h v' w' ?_ (Kept.of_grown hown hg hbase)
   have e : (l ++ [n]).length = l.length + 1 := by simp
   unfold IntsOwn
   rw [e, intVals_append]
   exact own'
def starts (at_ : Nat) : List J → List Nat
 | [] => []
 | j :: l => at_ :: starts (at_ + j.flat.length) l
theorem starts_append (at_ : Nat) (l m : List J) : starts at_ (l ++ m) = starts at_ l ++ starts (at_ + (J.flats l).length) m := by
 induction l generalizing at_ with
 | nil => simp [starts, J.flats]
 | cons j l ih => simp [starts, J.flats, ih, Nat.add_assoc]
theorem starts_length (at_ : Nat) (l : List J) : (starts at_ l).length = l.length := by
 induction l generalizing at_ with
 | nil => rfl
 | cons j l ih => simp [starts, ih]
theorem len_flats (l : List J) : l.length ≤ (J.flats l).length := by
 induction l with
 | nil => simp
 | cons j l ih =>
   have := flat_pos j
   rw [flats_cons, List.length_append, List.length_cons]
   omega
theorem drop_flat {t : List Nd} {a : Nat} {h : Hd} {l1 l2 : List J} {r : List Nd} (e : t.drop a = J.flat (.mk h (l1 ++ l2)) ++ r) : t.drop (a + 1 + (J.flats l1).length) = J.flats l2 ++ r := by
 rw [Nat.add_assoc, ← List.drop_drop, e, flat_mk, flats_append, List.cons_append, Nat.add_comm 1, List.drop_succ_cons, List.append_assoc, List.drop_left' rfl]
theorem head_flat {t : List Nd} {a : Nat} {j : J} {r : List Nd} (e : t.drop a = j.flat ++ r) : ∃ h : a < t.length, t[a] = ⟨j.hd.kind, j.hd.key, j.hd.n, j.hd.s, j.flat.length⟩ := by
 have hl := congrArg List.length e
 rw [List.length_append, List.length_drop] at hl
 have := flat_pos j
 have ha : a < t.length := by omega
 refine ⟨ha, ?_⟩
 obtain ⟨q, hq⟩ := flat_head j
 rw [List.drop_eq_getElem_cons ha] at e
 generalize j.flat.length = n at hq
 rw [hq, List.cons_append, List.cons.injEq] at e
 exact e.1
set_option maxRecDepth 100000 in
set_option maxHeartbeats 1000000 in
theorem kids_run (v : Value) (t : List Nd) (a : Nat) (h : Hd) (l : List J) (r : List Nd) (w : World) (ht : NodesIs w v t) (hl : t.length ≤ 4000) (hd : t.drop a = J.flat (.mk h l) ++ r) :
 Calls Tryz.prog 70 #[v, .int .i64 a] w (NewInts w (starts (a + 1) l)) := by
 obtain ⟨A, ca, rfl, hla, hma, hc⟩ := ht.nodes
 unfold maxLen at hma
 obtain ⟨ha, hta⟩ := head_flat (j := .mk h l) hd
 obtain ⟨b1, o1, rfl, hc1⟩ := hc.resolve_left (by omega)
 have HC := hide hc1
 obtain ⟨N, hN⟩ : ∃ N, Hid ((J.flats l).length = N) := ⟨_, hide rfl⟩
 obtain ⟨_, _, _, _, c4⟩ := hc1 a ha
 rw [hta] at c4
 have hsz : (J.flat (.mk h l)).length = N + 1 := by rw [flat_mk, List.length_cons, hN.out]
 simp only [hsz] at c4
 have HD := hide hd
 have hbound : a + (N + 1) ≤ t.length := by
  have e := congrArg List.length hd
  rw [List.length_append, List.length_drop, hsz] at e
  omega
 have C4 := hide c4
 clear ht hc hc1 c4 hd hsz hta
 go_enter Tryz.func70, Tryz.ntmps70
 go_wp2_with fail
 go_loopw [4, 5] (fun o i wr => ∃ (l1 l2 : List J) (p : Nat), i = .int .i64 p ∧ Hid (l = l1 ++ l2) ∧ Hid (p = a + 1 + (J.flats l1).length) ∧ p ≤ a + 1 + N ∧ Hid (IntsOwn w.heap.size wr o (starts (a + 1) l1)) ∧ Hid (Old w wr)) (fun _ i _ => a + 1 + N - (intOf i).toNat)
 case atStart => exact ⟨[], l, a + 1, by go_num, hide rfl, hide (by simp [J.flats]), by omega, hide (World.ownsRow_nil _ _ _ _), hide (Old.refl _)⟩
 case round =>
  obtain ⟨l1, l2, p, rfl, HL, HP, hp, HOWN, HO⟩ := hrel
  have c4 := HO.out.cell C4.out
  cases l2 with
  | nil =>
    have E := hide (show l = l1 by rw [HL.out]; simp)
    have hpe : p = a + 1 + N := by have h1 := HP.out; have h2 := hN.out; rw [E.out] at h2; omega
    have hpe1 : ¬ ((p : Int) < (a : Int) + ((N : Int) + 1)) := by omega
    have hpe2 : (a : Int) + ((N : Int) + 1) ≤ (p : Int) := by omega
    clear hpe
    go_wp2_with fail
    go_ret
    exact ⟨_, rfl, by rw [E.out]; exact SlT.of_own HOWN.out, HO.out⟩
  | cons j l3 =>
    have HDP := hide (show t.drop p = j.flat ++ (J.flats l3 ++ r) by
     rw [HP.out]
     have := HD.out
     rw [HL.out] at this
     rw [drop_flat this, flats_cons, List.append_assoc])
    obtain ⟨hpt, hpx⟩ := head_flat HDP.out
    obtain ⟨_, _, _, _, d4⟩ := HC.out p hpt
    rw [hpx] at d4
    have hq := flat_pos j
    have hpl : p + j.flat.length ≤ a + 1 + N := by
     have h1 := HP.out
     have h2 := hN.out
     rw [HL.out, flats_append, flats_cons, List.length_append, List.length_append] at h2
     omega
    have hst := len_flats l1
    have hst2 := starts_length (a + 1) l1
    have hp1 := HP.out
    have hlen : (starts (a + 1) l1).length + 1 ≤ 4194304 := by omega
    have HNEXT := hide (show starts (a + 1) (l1 ++ [j]) = starts (a + 1) l1 ++ [p] by rw [starts_append, ← HP.out]; rfl)
    have HP2 := hide (show p + j.flat.length = a + 1 + (J.flats (l1 ++ [j])).length by rw [flats_append, flats_one, List.length_append, ← Nat.add_assoc, ← HP.out])
    clear hst hst2 hp1 hpx
    obtain ⟨q, hqq⟩ : ∃ q, Hid (j.flat.length = q) := ⟨_, hide rfl⟩
    rw [hqq.out] at d4 hq hpl HP2
    have D4 := hide d4
    clear d4 hqq
    go_upto_region 3 with (at_builtin; refine wpList_plain rfl (fun K hK => ?_); refine step_push_int _ _ _ rfl w.heap.size _ (starts (a + 1) l1) rfl (own_old HOWN.out ((Old.refl wr).alloc _)) _ _ p rfl (by go_simp) hlen (HO.out.alloc _).size ?_; intro v' w2 own2 kept2; refine hK _ _ ?_; clear hK)
    have O2 := hide (kept2.old (HO.out.alloc _) (Nat.le_refl _))
    have d4 := O2.out.cell D4.out
    have OW2 := hide own2
    clear kept2 own2 c4
    go_wp2_with fail
    go_roundw
    case rel => exact ⟨l1 ++ [j], l3, p + q, by go_num, hide (by rw [HL.out]; simp), HP2, by omega, hide (by rw [HNEXT.out]; exact OW2.out), O2⟩
    case measure => simp [intOf]; omega
def kidsT (t : List Nd) (ks : List Nat) : Prop := (∃ h l, May t (.mk h l) ∧ ks = starts 1 l) ∨ (chkT t ≠ 0 ∧ ks = [])
set_option maxRecDepth 100000 in
set_option maxHeartbeats 400000 in
theorem Kids_run (v : Value) (t : List Nd) (ks : List Nat) (w : World) (ht : NodesIs w v t) (hk : TextsOk t) (hT : Tabs w) (hks : kidsT t ks) :
 Calls Tryz.prog 29 #[v] w (NewInts w ks) := by
 have CC := hide (check_run v t w ht hk hT)
 rcases hks with ⟨h, l, hj, rfl⟩ | ⟨hc, rfl⟩
 · have CK := hide (show ∀ w', Old w w' → Calls Tryz.prog 70 #[v, .int .i64 (0 : Nat)] w' fun e w2 => ∃ v, e = .returned v ∧ IntsT w.heap.size w2 v (starts (0 + 1) l) ∧ Old w w2 from fun w' ho =>
    (kids_run v t 0 h l [] w' (ht.old ho) hj.2.1 (by rw [List.drop_zero, List.append_nil]; exact hj.1.2.2)).mono fun _ _ ⟨v, h1, h2, h3⟩ => ⟨v, h1, h2.mono ho.size, Old.trans ho h3⟩)
   have C0 := hide (num_as CC.out (chkT_may hj))
   clear ht hk hT CC
   go_enter Tryz.func29, Tryz.ntmps29
   go_wp2_with fail
   refine C0.out.mono ?_
   rintro e w1 ⟨rfl, o1⟩
   go_wp2_with fail
   refine (CK.out _ o1).mono ?_
   rintro e w2 ⟨v2, rfl, h2, o2⟩
   go_wp2_with fail
   go_ret
   exact ⟨_, rfl, h2, o2⟩
 · have hc' : (chkT t != 0) = true := by simpa using hc
   clear ht hk hT hc
   go_enter Tryz.func29, Tryz.ntmps29
   go_wp2_with fail
   refine CC.out.mono ?_
   rintro e w1 ⟨rfl, o1⟩
   go_wp2_with fail
   go_ret
   exact ⟨_, rfl, SlT.nil_ _, o1⟩
end Go.Proofs.YthlfljmfggmfdaaGreatDoor

/-! ###  -/
namespace Go.Proofs.YthlfljmfggmfdaaGreatDoor
open Go.RowKit
def modOf (n : Nat) : Nat := if n = 2 then 32 else if n = 3 then 16 else if n = 4 then 8 else 256
def numTo (s : ByteArray) : Nat → Nat
 | 0 => 0
 | 1 => (s.get! 0).toNat % modOf s.size
 | k + 2 => 64 * numTo s (k + 1) + (s.get! (k + 1)).toNat % 64
theorem get_at (s : ByteArray) {i : Nat} (h : i < s.size) : s[i] = s.get! i := by
 simp [ByteArray.get!, ByteArray.getElem_eq_getElem_data, h, getElem!_pos]
end Go.Proofs.YthlfljmfggmfdaaGreatDoor
namespace Go.Proofs.YthlfljmfggmfdaaGreatDoor
open Go.RowKit
def putL (n : Nat) : List Int :=
 if 65536 ≤ n then [240 + (n : Int) / 262144, 128 + (n : Int) / 4096 % 64, 128 + (n : Int) / 64 % 64, 128 + (n : Int) % 64]
 else if 2048 ≤ n then [224 + (n : Int) / 4096, 128 + (n : Int) / 64 % 64, 128 + (n : Int) % 64]
 else if 128 ≤ n then [192 + (n : Int) / 64, 128 + (n : Int) % 64]
 else [(n : Int)]
def scalarB (n : Nat) : Bool := decide (n ≤ 1114111) && !(decide (55296 ≤ n) && decide (n ≤ 57343))
end Go.Proofs.YthlfljmfggmfdaaGreatDoor
namespace Go.Proofs.YthlfljmfggmfdaaGreatDoor
open Go.RowKit
def numAt (s : ByteArray) (n : Nat) : Nat := numTo (s.extract 0 n) n
def hit (s : ByteArray) (n : Nat) : Bool := decide (n ≤ s.size) && (scalarB (numAt s n) && decide (strOfNums (putL (numAt s n)) = s.extract 0 n))
def nextN (s : ByteArray) : Nat := if hit s 1 then 1 else if hit s 2 then 2 else if hit s 3 then 3 else if hit s 4 then 4 else 0
theorem hit_bd {s : ByteArray} {n : Nat} (h : hit s n = true) : n ≤ s.size := by
 unfold hit at h
 simp at h
 exact h.1
theorem nextN_bd (s : ByteArray) : nextN s ≤ s.size := by
 unfold nextN
 split
 · exact hit_bd (by assumption)
 · split
   · exact hit_bd (by assumption)
   · split
     · exact hit_bd (by assumption)
     · split
       · exact hit_bd (by assumption)
       · omega
theorem nextN_four (s : ByteArray) : nextN s ≤ 4 := by
 unfold nextN
 split <;> (try split) <;> (try split) <;> (try split) <;> omega
end Go.Proofs.YthlfljmfggmfdaaGreatDoor
namespace Go.Proofs.YthlfljmfggmfdaaGreatDoor
open Go.RowKit
theorem strOf_eq (xs : List Int) (ys : List UInt8) (h : ∀ x ∈ xs, 0 ≤ x ∧ x < 256) : strOfNums xs = ⟨ys.toArray⟩ ↔ xs = ys.map (fun y => (y.toNat : Int)) := by
 constructor
 · intro e
   have e2 : xs.map (fun n => UInt8.ofNat n.toNat) = ys := by
    have := congrArg (fun s : ByteArray => s.data.toList) e
    simpa [strOfNums] using this
   rw [← e2, List.map_map]
   symm
   have : ∀ x ∈ xs, ((fun y : UInt8 => (y.toNat : Int)) ∘ fun n : Int => UInt8.ofNat n.toNat) x = x := by
    intro x hx
    obtain ⟨h1, h2⟩ := h x hx
    simp only [Function.comp]
    rw [UInt8.toNat_ofNat']
    omega
   calc xs.map _ = xs.map id := List.map_congr_left this
    _ = xs := List.map_id _
 · rintro rfl
   simp [strOfNums, List.map_map, Function.comp_def]
theorem putL_bd (n : Nat) (h : n ≤ 1114111) : ∀ x ∈ putL n, 0 ≤ x ∧ x < 256 := by
 intro x hx
 unfold putL at hx
 split at hx
 · simp at hx; omega
 · split at hx
   · simp at hx; omega
   · split at hx
     · simp at hx; omega
     · simp at hx; omega
theorem scalar_le {n : Nat} (h : scalarB n = true) : n ≤ 1114111 := by
 unfold scalarB at h
 simp at h
 exact h.1
def txt (l : List UInt8) : ByteArray := ⟨l.toArray⟩
theorem txt_size (l : List UInt8) : (txt l).size = l.length := by simp [txt, ByteArray.size]
theorem txt_ext (l : List UInt8) (n : Nat) : (txt l).extract 0 n = txt (l.take n) := by
 apply bytes_ext
 simp [txt, ByteArray.toList_eq, ByteArray.data_extract]
theorem hit_txt (l : List UInt8) (n : Nat) (hn : n ≤ l.length) : hit (txt l) n = (scalarB (numAt (txt l) n) && decide (putL (numAt (txt l) n) = (l.take n).map (fun y => (y.toNat : Int)))) := by
 unfold hit
 rw [decide_eq_true (by rw [txt_size]; exact hn), Bool.true_and]
 cases hs : scalarB (numAt (txt l) n)
 · rfl
 · rw [Bool.true_and, Bool.true_and, txt_ext]
   rw [decide_eq_decide]
   exact strOf_eq _ _ (putL_bd _ (scalar_le hs))
theorem num1 (a : UInt8) (r : List UInt8) : numAt (txt (a :: r)) 1 = a.toNat := by
 unfold numAt
 rw [txt_ext]
 simp [numTo, modOf, txt, ByteArray.get!, ByteArray.size]
theorem num2 (a b : UInt8) (r : List UInt8) : numAt (txt (a :: b :: r)) 2 = 64 * (a.toNat % 32) + b.toNat % 64 := by
 unfold numAt
 rw [txt_ext]
 simp [numTo, modOf, txt, ByteArray.get!, ByteArray.size]
theorem num3 (a b c : UInt8) (r : List UInt8) : numAt (txt (a :: b :: c :: r)) 3 = 64 * (64 * (a.toNat % 16) + b.toNat % 64) + c.toNat % 64 := by
 unfold numAt
 rw [txt_ext]
 simp [numTo, modOf, txt, ByteArray.get!, ByteArray.size]
theorem num4 (a b c d : UInt8) (r : List UInt8) : numAt (txt (a :: b :: c :: d :: r)) 4 = 64 * (64 * (64 * (a.toNat % 8) + b.toNat % 64) + c.toNat % 64) + d.toNat % 64 := by
 unfold numAt
 rw [txt_ext]
 simp [numTo, modOf, txt, ByteArray.get!, ByteArray.size]
theorem hit1 (a : UInt8) (r : List UInt8) : hit (txt (a :: r)) 1 = decide (a.toNat < 128) := by
 have := a.toNat_lt
 rw [hit_txt _ _ (by simp), num1, Bool.eq_iff_iff]
 unfold scalarB putL
 rw [if_neg (by omega), if_neg (by omega)]
 split <;> simp <;> omega
theorem hit2 (a b : UInt8) (r : List UInt8) : hit (txt (a :: b :: r)) 2 = decide (a.toNat / 32 = 6 ∧ b.toNat / 64 = 2 ∧ 128 ≤ 64 * (a.toNat % 32) + b.toNat % 64) := by
 have := a.toNat_lt
 have := b.toNat_lt
 rw [hit_txt _ _ (by simp), num2, Bool.eq_iff_iff]
 unfold scalarB putL
 rw [if_neg (by omega), if_neg (by omega)]
 split <;> simp <;> omega
theorem hit3 (a b c : UInt8) (r : List UInt8) : hit (txt (a :: b :: c :: r)) 3 = decide (a.toNat / 16 = 14 ∧ b.toNat / 64 = 2 ∧ c.toNat / 64 = 2 ∧ 2048 ≤ 64 * (64 * (a.toNat % 16) + b.toNat % 64) + c.toNat % 64 ∧ ¬ (55296 ≤ 64 * (64 * (a.toNat % 16) + b.toNat % 64) + c.toNat % 64 ∧ 64 * (64 * (a.toNat % 16) + b.toNat % 64) + c.toNat % 64 ≤ 57343)) := by
 have := a.toNat_lt
 have := b.toNat_lt
 have := c.toNat_lt
 rw [hit_txt _ _ (by simp), num3, Bool.eq_iff_iff]
 unfold scalarB putL
 rw [if_neg (by omega)]
 split
 · simp; omega
 · split <;> simp <;> omega
theorem hit4 (a b c d : UInt8) (r : List UInt8) : hit (txt (a :: b :: c :: d :: r)) 4 = decide (a.toNat / 8 = 30 ∧ b.toNat / 64 = 2 ∧ c.toNat / 64 = 2 ∧ d.toNat / 64 = 2 ∧ 65536 ≤ 64 * (64 * (64 * (a.toNat % 8) + b.toNat % 64) + c.toNat % 64) + d.toNat % 64 ∧ 64 * (64 * (64 * (a.toNat % 8) + b.toNat % 64) + c.toNat % 64) + d.toNat % 64 ≤ 1114111) := by
 have := a.toNat_lt
 have := b.toNat_lt
 have := c.toNat_lt
 have := d.toNat_lt
 rw [hit_txt _ _ (by simp), num4, Bool.eq_iff_iff]
 unfold scalarB putL
 split
 · simp; omega
 · split
   · simp; omega
   · split <;> simp <;> omega
theorem hit_short {l : List UInt8} {n : Nat} (h : l.length < n) : hit (txt l) n = false := by
 unfold hit
 rw [decide_eq_false (by rw [txt_size]; omega)]
 rfl
theorem valid_scalar (c : Nat) : Utf8.valid c = (decide (c < 55296) || (decide (57343 < c) && decide (c ≤ 1114111))) := by
 unfold Utf8.valid
 rw [Bool.eq_iff_iff]
 simp
 omega
theorem next_decode (l : List UInt8) (h : l ≠ []) : nextN (txt l) = if Utf8.decode (txt l) 0 = (65533, 1) then 0 else (Utf8.decode (txt l) 0).2 := by
 match l, h with
 | [a], _ =>
   have ha := a.toNat_lt
   unfold nextN
   rw [hit1, hit_short (n := 2) (by simp), hit_short (n := 3) (by simp), hit_short (n := 4) (by simp)]
   simp only [Utf8.decode, Utf8.runeError, txt_size]
   simp [txt, ByteArray.get!]
   split <;> simp <;> omega
 | [a, b], _ =>
   have ha := a.toNat_lt
   have hb := b.toNat_lt
   have e0 : (txt ([a, b])).get! 0 = a := rfl
   have e1 : (txt ([a, b])).get! 1 = b := rfl
   unfold nextN
   rw [hit1, hit2, hit_short (n := 3) (by simp), hit_short (n := 4) (by simp)]
   simp only [Utf8.decode, Utf8.runeError, txt_size, Nat.zero_add, e0, e1, List.length_cons, List.length_nil, valid_scalar]
   clear e0 e1
   generalize a.toNat = A at *
   generalize b.toNat = B at *
   simp only [decide_eq_true_eq, Bool.and_eq_true, Bool.or_eq_true, beq_iff_eq, Bool.false_eq_true, if_false, Nat.lt_irrefl, decide_false, Bool.false_and, Bool.and_false]
   repeat' split
   all_goals first | rfl | omega | exact absurd rfl ‹¬ ((65533, 1) : Nat × Nat) = (65533, 1)› | (simp only [Prod.mk.injEq] at *; omega)
 | [a, b, c], _ =>
   have ha := a.toNat_lt
   have hb := b.toNat_lt
   have hc := c.toNat_lt
   have e0 : (txt ([a, b, c])).get! 0 = a := rfl
   have e1 : (txt ([a, b, c])).get! 1 = b := rfl
   have e2 : (txt ([a, b, c])).get! 2 = c := rfl
   unfold nextN
   rw [hit1, hit2, hit3, hit_short (n := 4) (by simp)]
   simp only [Utf8.decode, Utf8.runeError, txt_size, Nat.zero_add, e0, e1, e2, List.length_cons, List.length_nil, valid_scalar]
   clear e0 e1 e2
   generalize a.toNat = A at *
   generalize b.toNat = B at *
   generalize c.toNat = C at *
   simp only [decide_eq_true_eq, Bool.and_eq_true, Bool.or_eq_true, beq_iff_eq, Bool.false_eq_true, if_false, Nat.lt_irrefl, decide_false, Bool.false_and, Bool.and_false]
   repeat' split
   all_goals first | rfl | omega | exact absurd rfl ‹¬ ((65533, 1) : Nat × Nat) = (65533, 1)› | (simp only [Prod.mk.injEq] at *; omega)
 | a :: b :: c :: d :: r, _ =>
   have ha := a.toNat_lt
   have hb := b.toNat_lt
   have hc := c.toNat_lt
   have hd := d.toNat_lt
   have e0 : (txt (a :: b :: c :: d :: r)).get! 0 = a := rfl
   have e1 : (txt (a :: b :: c :: d :: r)).get! 1 = b := rfl
   have e2 : (txt (a :: b :: c :: d :: r)).get! 2 = c := rfl
   have e3 : (txt (a :: b :: c :: d :: r)).get! 3 = d := rfl
   unfold nextN
   rw [hit1, hit2, hit3, hit4]
   simp only [Utf8.decode, Utf8.runeError, txt_size, Nat.zero_add, e0, e1, e2, e3, List.length_cons, valid_scalar]
   clear e0 e1 e2 e3
   generalize a.toNat = A at *
   generalize b.toNat = B at *
   generalize c.toNat = C at *
   generalize d.toNat = D at *
   simp only [decide_eq_true_eq, Bool.and_eq_true, Bool.or_eq_true, beq_iff_eq]
   repeat' split
   all_goals first | rfl | omega | exact absurd rfl ‹¬ ((65533, 1) : Nat × Nat) = (65533, 1)› | (simp only [Prod.mk.injEq] at *; omega)
theorem decode_pos (s : ByteArray) : 1 ≤ (Utf8.decode s 0).2 := by
 unfold Utf8.decode
 simp only
 repeat' split
 all_goals simp
end Go.Proofs.YthlfljmfggmfdaaGreatDoor

/-! ###  -/
namespace Go.Proofs.YthlfljmfggmfdaaGreatDoor
open Go.RowKit
theorem cellInfo : (Tryz.prog.info? 38).map (fun i => (i.zero, i.size, i.bytes)) = some (some (.agg #[.bool false, .int .i64 0, .string ⟨#[]⟩]), 3, 32) := by kernel_rfl
theorem step_push_row {o : Oper} {a : Act} {K : Act → World → Prop} {Q : Exit → Act → World → Prop} (w : World) (s x : Operand)
 (ho : o.op = .call { callee := .builtin .append, args := #[s, x], argTypes := #[23, 23] })
 (base : Nat) (v : Value) (r : List Cell) (hs : a.eval s = v) (hown : w.ownsRow base 38 3 v r.length (rowVals r))
 (xv : Value) (q : List Cell) (hev : a.eval x = xv) (hx : RowIs w xv q) (hlen : r.length + q.length ≤ 4194304) (hbase : base ≤ w.heap.size)
 (h : ∀ v' w', w'.ownsRow base 38 3 v' (r ++ q).length (rowVals (r ++ q)) → Kept 38 base w w' → K (a.put o.dst v') w') : o.wp Tryz.prog a w K Q := by
 obtain ⟨i0, hi, hz0, hz1, hz2⟩ := info_parts cellInfo
 refine wp_append_sl w s x 23 ho base 38 i0 _ 3 32 Tryz.underlying23 hi hz0 hz1 hz2 rfl (by omega) v r.length (rowVals r) hs hown
  xv q.length (rowVals q) hev hx (rowVals_length q) (rowVals_cell q) (by unfold maxLen; omega) (by omega) hbase ?_
 intro v' w' own' hg
 refine h v' w' ?_ (Kept.of_grown hown hg hbase)
 rw [rowVals_append, List.length_append]
 exact own'
theorem cellGuard : Tryz.prog.eqGuardType Tryz.prog.depth 38 = false := by kernel_rfl
theorem cellStood : Tryz.prog.stoodInHeld 38 = false := by kernel_rfl
theorem cellFields : Tryz.prog.underlying 38 = some (.struct (Tryz.prog.fieldsOf 38)) := by kernel_rfl
def neCell (a b : Cell) : Bool := !decide (a = b)
theorem neCell_false {a b : Cell} : neCell a b = false ↔ a = b := by simp [neCell]
theorem neq_cell (a b : Cell) (w : World) : (binOp .neq 38 (.agg #[.bool a.null, .int .i64 a.n, .string a.s]) (.agg #[.bool b.null, .int .i64 b.n, .string b.s])).run Tryz.prog w = .ok (.bool (neCell a b)) w := by
 rw [run_neq_struct, run_equalIn_agg _ _ _ _ _ cellFields cellStood]
 simp only [Program.fieldsOf, Tryz.underlying38]
 obtain ⟨an, ai, aS⟩ := a
 obtain ⟨bn, bi, bS⟩ := b
 simp [go_sem, neCell]
 by_cases h1 : an = bn
 · by_cases h2 : ai = bi
   · by_cases h3 : aS = bS
     · subst h3; simp [h1, h2]
     · have h4 : ¬ aS.toList = bS.toList := fun h => h3 (bytesD_ext (by rw [← ByteArray.toList_eq, ← ByteArray.toList_eq, h]))
       simp [h1, h2, h3, h4]
   · simp [h1, h2]
 · simp [h1]
def sameRow (a b : List Cell) : Bool := decide (a = b)
theorem sameRow_len {a b : List Cell} (h : a.length ≠ b.length) : sameRow a b = false := by
 simp only [sameRow, decide_eq_false_iff_not]; intro e; exact h (by rw [e])
theorem sameRow_at {a b : List Cell} {k : Nat} (ha : k < a.length) (hb : k < b.length) (h : neCell a[k] b[k] = true) : sameRow a b = false := by
 simp only [sameRow, decide_eq_false_iff_not]
 rintro rfl
 simp [neCell] at h
theorem sameRow_end {a b : List Cell} (hl : a.length = b.length) (h : ∀ j : Nat, j < a.length → a[j]? = b[j]?) : sameRow a b = true := by
 simp only [sameRow, decide_eq_true_eq]
 apply List.ext_getElem?
 intro j
 rcases Nat.lt_or_ge j a.length with h1 | h1
 · exact h j h1
 · rw [List.getElem?_eq_none h1, List.getElem?_eq_none (by omega)]
theorem row_next {a b : List Cell} {k : Nat} (ha : k < a.length) (hb : k < b.length) (h : ∀ j : Nat, j < k → a[j]? = b[j]?) (hc : neCell a[k] b[k] = false) : ∀ j : Nat, j < k + 1 → a[j]? = b[j]? := by
 intro j hj
 rcases Nat.lt_or_ge j k with h1 | h1
 · exact h j h1
 · have : j = k := by omega
   subst this
   rw [List.getElem?_eq_getElem ha, List.getElem?_eq_getElem hb, neCell_false.1 hc]
set_option maxRecDepth 100000 in
set_option maxHeartbeats 400000 in
theorem eqRow (va vb : Value) (a b : List Cell) (w : World) (ha : RowIs w va a) (hb : RowIs w vb b) :
 Calls Tryz.prog 21 #[va, vb] w fun e w' => e = .returned (.bool (sameRow a b)) ∧ Old w w' := by
 have hG := cellGuard
 obtain ⟨A, ca, rfl, hla, hma, ha⟩ := ha.row
 obtain ⟨B, cb, rfl, hlb, hmb, hb⟩ := hb.row
 unfold maxLen at hma hmb
 go_enter Tryz.func21, Tryz.ntmps21
 by_cases hl : a.length = b.length
 · have hl' : ((a.length : Int) != (b.length : Int)) = false := by simp [hl]
   have HL := Lib.hid hl
   have hl1 : a.length ≤ b.length := by omega
   have hl2 : b.length ≤ a.length := by omega
   clear hl
   go_wp2_with fail
   go_loopw [5] (fun i wr => ∃ k : Nat, i = .int .i64 k ∧ k ≤ a.length ∧ Hid (∀ j : Nat, j < k → a[j]? = b[j]?) ∧ Old w wr) (fun i _ => a.length - (intOf i).toNat)
   case atStart => exact ⟨0, rfl, by omega, Lib.hid (by intro j hj; omega), Old.refl _⟩
   case round =>
    obtain ⟨k, rfl, hk, HQ, hbl⟩ := hrel
    by_cases hlt : k < a.length
    · have hlt' : k < b.length := by omega
      obtain ⟨b1, o1, rfl, hc1⟩ := ha.resolve_left (by omega)
      obtain ⟨b2, o2, rfl, hc2⟩ := hb.resolve_left (by omega)
      obtain ⟨x0, x1, x2⟩ := hc1 k hlt
      obtain ⟨y0, y1, y2⟩ := hc2 k hlt'
      have hx0 := Old.cell hbl x0
      have hx1 := Old.cell hbl x1
      have hx2 := Old.cell hbl x2
      have hy0 := Old.cell hbl y0
      have hy1 := Old.cell hbl y1
      have hy2 := Old.cell hbl y2
      have hq := neq_cell a[k] b[k]
      clear ha hb hc1 hc2 x0 x1 x2 y0 y1 y2
      go_wp2_with fail
      go_quiet (fail)
      clear hx0 hx1 hx2 hy0 hy1 hy2 hq
      cases hc : neCell a[k] b[k]
      · have HC := Lib.hid hc
        clear hc
        go_wp2_with fail
        go_roundw
        case rel => exact ⟨k + 1, by go_num, by omega, Lib.hid (row_next hlt hlt' HQ.out HC.out), Old.drewN hbl _⟩
        case measure => simp [intOf]; omega
      · have HC := Lib.hid hc
        clear hc
        go_wp2_with fail
        go_ret
        exact ⟨ret_bool (sameRow_at hlt hlt' HC.out).symm, Old.drewN hbl _⟩
    · go_wp2_with fail
      go_ret
      exact ⟨ret_bool (sameRow_end HL.out (fun j hj => HQ.out j (by omega))).symm, hbl⟩
 · have hl' : ((a.length : Int) != (b.length : Int)) = true := by simp; omega
   go_wp2_with fail
   go_ret
   exact ⟨ret_bool (sameRow_len hl).symm, Old.refl _⟩
def NewRow (w0 : World) (r : List Cell) (e : Ending) (w' : World) : Prop :=
 ∃ v, e = .returned v ∧ SlT 38 w0.heap.size w' v r.length (rowVals r) ∧ Old w0 w'
theorem NewRow.form {w0 w' : World} {r : List Cell} {e : Ending} {lo : Nat} (h : NewRow w0 r e w') (hl : lo ≤ w0.heap.size) :
 ∃ A cp, e = .returned (.slice A r.length cp) ∧ SlT 38 lo w' (.slice A r.length cp) r.length (rowVals r) ∧ Old w0 w' := by
 obtain ⟨v, rfl, h1, h2⟩ := h
 obtain ⟨A, cp, rfl, _⟩ := id h1
 exact ⟨A, cp, rfl, h1.mono hl, h2⟩
theorem one_row {w : World} {g cap : Nat} {c : Cell} (h0 : w.cell? ⟨g, 0, none⟩ = some (.bool c.null)) (h1 : w.cell? ⟨g, 1, none⟩ = some (.int .i64 c.n)) (h2 : w.cell? ⟨g, 2, none⟩ = some (.string c.s)) (hc : 1 ≤ cap) (hm : cap ≤ maxLen) : RowIs w (.slice (some ⟨g, 0, none⟩) 1 cap) [c] := by
 refine ⟨_, cap, rfl, hc, hm, fun _ => ⟨g, 0, rfl, fun j u hu => ?_⟩⟩
 match j, hu with
 | 0, hu => simp [rowVals, Cell.vals] at hu; subst hu; exact h0
 | 1, hu => simp [rowVals, Cell.vals] at hu; subst hu; exact h1
 | 2, hu => simp [rowVals, Cell.vals] at hu; subst hu; exact h2
 | j + 3, hu => simp [rowVals, Cell.vals] at hu
end Go.Proofs.YthlfljmfggmfdaaGreatDoor
