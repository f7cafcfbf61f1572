/-  -/
import Derived.Test.YthlfljmfggmfdaaGreatDoorQk05
/-! ###  -/
namespace Go.Proofs.YthlfljmfggmfdaaGreatDoor
open Go.RowKit
def chkT (t : List Nd) : Int := if 4000 < t.length then 5 else match lookOf vU t with
 | none => 60
 | some d => if 64 < d then 72 else 0
def deepT (t : List Nd) : Nat := if chkT t = 0 then (lookOf vU t).getD 0 else 0
def May (t : List Nd) (j : J) : Prop := Tape vU j t ∧ t.length ≤ 4000 ∧ j.deep ≤ 64
theorem chkT_may {t : List Nd} {j : J} (h : May t j) : chkT t = 0 := by
 unfold chkT
 rw [if_neg (by have := h.2.1; omega), look_yes h.1]
 simp only
 rw [if_neg (by have := h.2.2; omega)]
theorem deepT_may {t : List Nd} {j : J} (h : May t j) : deepT t = j.deep := by
 unfold deepT
 rw [if_pos (chkT_may h), look_yes h.1]
 rfl
theorem may_of {t : List Nd} (h : chkT t = 0) : ∃ j, May t j := by
 unfold chkT at h
 split at h
 · omega
 · split at h
   · omega
   · rename_i d e
     split at h
     · omega
     · obtain ⟨j, hj⟩ := look_no e
       refine ⟨j, hj, by omega, ?_⟩
       rw [look_yes hj] at e
       injection e with e
       omega
theorem Sl.form {w : World} {v : Value} {n : Nat} {xs : List Value} (h : Sl w v n xs) : ∃ A cap, v = .slice A n cap ∧ n ≤ cap ∧ cap ≤ maxLen := by
 obtain ⟨A, cap, rfl, h1, h2, _⟩ := h
 exact ⟨A, cap, rfl, h1, h2⟩
set_option maxRecDepth 100000 in
set_option maxHeartbeats 400000 in
theorem check_run (v : Value) (t : List Nd) (w : World) (ht : NodesIs w v t) (hk : TextsOk t) (hT : Tabs w) :
 Calls Tryz.prog 44 #[v] w fun e w' => e = .returned (.int .i64 (chkT t)) ∧ Old w w' := by
 have CL := hide (show t.length ≤ 4000 → Calls Tryz.prog 91 #[v] w fun e w' => e = .returned (lookVal (lookOf vU t)) ∧ Old w w' from fun h => look_run v t w ht h hk hT)
 obtain ⟨A, cap, rfl, h1, h2⟩ := ht.form
 unfold maxLen at h2
 clear ht hk hT
 by_cases hl : 4000 < t.length
 · have hl' : (4000 : Int) < (t.length : Int) := by omega
   have E := hide (show chkT t = 5 by unfold chkT; rw [if_pos hl])
   clear CL
   go_enter Tryz.func44, Tryz.ntmps44
   go_wp2_with fail
   go_ret
   exact ⟨ret_int E.out.symm, Old.refl _⟩
 · have hl' : ¬ (4000 : Int) < (t.length : Int) := by omega
   have C := hide (CL.out (by omega))
   have E : chkT t = match lookOf vU t with | none => 60 | some d => if 64 < d then 72 else 0 := by unfold chkT; rw [if_neg hl]
   clear CL
   cases e : lookOf vU t with
   | none =>
     rw [e] at C E
     have E := hide E
     simp only [lookVal] at C
     clear e
     go_enter Tryz.func44, Tryz.ntmps44
     go_wp2_with fail
     refine C.out.mono ?_
     rintro e w1 ⟨rfl, o1⟩
     go_wp2_with fail
     go_ret
     exact ⟨ret_int E.out.symm, o1⟩
   | some d =>
     rw [e] at C E
     simp only [lookVal] at C
     simp only at E
     clear e
     by_cases hd : 64 < d
     · have hd' : (64 : Int) < (d : Int) := by omega
       rw [if_pos hd] at E
       have E := hide E
       go_enter Tryz.func44, Tryz.ntmps44
       go_wp2_with fail
       refine C.out.mono ?_
       rintro e w1 ⟨rfl, o1⟩
       go_wp2_with fail
       go_ret
       exact ⟨ret_int E.out.symm, o1⟩
     · have hd' : ¬ (64 : Int) < (d : Int) := by omega
       rw [if_neg hd] at E
       have E := hide E
       go_enter Tryz.func44, Tryz.ntmps44
       go_wp2_with fail
       refine C.out.mono ?_
       rintro e w1 ⟨rfl, o1⟩
       go_wp2_with fail
       go_ret
       exact ⟨ret_int E.out.symm, o1⟩
theorem num_as {f : FuncId} {args : Array Value} {w : World} {n n' : Int} (h : Calls Tryz.prog f args w fun e w' => e = .returned (.int .i64 n) ∧ Old w w') (e : n = n') : Calls Tryz.prog f args w fun e w' => e = .returned (.int .i64 n') ∧ Old w w' := by
 subst e
 exact h
set_option maxRecDepth 100000 in
set_option maxHeartbeats 400000 in
theorem deep_run (v : Value) (t : List Nd) (w : World) (ht : NodesIs w v t) (hk : TextsOk t) (hT : Tabs w) :
 Calls Tryz.prog 106 #[v] w fun e w' => e = .returned (.int .i64 (deepT t)) ∧ Old w w' := by
 have CC := hide (check_run v t w ht hk hT)
 by_cases hc : chkT t = 0
 · obtain ⟨j, hj⟩ := may_of hc
   have CL := hide (show ∀ w', Old w w' → Calls Tryz.prog 91 #[v] w' fun e w2 => e = .returned (.tuple #[.int .i64 j.deep, .bool true]) ∧ Old w' w2 from fun w' h => by
    have := look_run v t w' (ht.old h) hj.2.1 hk (hT.old h)
    rwa [look_yes hj.1] at this)
   have E := hide (deepT_may hj)
   have C0 := hide (num_as CC.out hc)
   clear ht hk hT CC hc
   go_enter Tryz.func106, Tryz.ntmps106
   go_wp2_with fail
   refine C0.out.mono ?_
   rintro e w1 ⟨rfl, o1⟩
   go_wp2_with fail
   refine (CL.out _ o1).mono ?_
   rintro e w2 ⟨rfl, o2⟩
   go_wp2_with fail
   go_ret
   exact ⟨ret_int (by rw [E.out]), Old.trans o1 o2⟩
 · have hc' : (chkT t != 0) = true := by simpa using hc
   have E := hide (show deepT t = 0 by unfold deepT; rw [if_neg hc])
   clear ht hk hT hc
   go_enter Tryz.func106, Tryz.ntmps106
   go_wp2_with fail
   refine CC.out.mono ?_
   rintro e w1 ⟨rfl, o1⟩
   go_wp2_with fail
   go_ret
   exact ⟨ret_int (by rw [E.out]; rfl), o1⟩
end Go.Proofs.YthlfljmfggmfdaaGreatDoor
namespace Go.Proofs.YthlfljmfggmfdaaGreatDoor
open Go.RowKit
def NewNodes (w0 : World) (l : List Nd) (e : Ending) (w' : World) : Prop := ∃ v, e = .returned v ∧ NodesT w0.heap.size w' v l ∧ Old w0 w'
def leafT (kind n : Int) (s : ByteArray) : List Nd := [⟨kind, none_, n, s, 1⟩]
theorem heap_new (w : World) (o : Obj) (n : Nat) (h : w.heap.size = n) : (w.alloc o).heap[n]? = some o := by
 subst h
 exact heap_alloc_new w o
theorem one_node (w : World) (x : Nd) (n : Nat) (h : w.heap.size = n) (lo : Nat) (hlo : lo ≤ n) : NodesT lo (w.alloc (.cells #[.int .i64 x.kind, .string x.key, .int .i64 x.n, .string x.s, .int .i64 x.size] 36)) (.slice (some ⟨n, 0, none⟩) 1 1) [x] := by
 refine ⟨_, _, rfl, Nat.le_refl _, by unfold maxLen; omega, fun _ => ⟨n, 0, _, rfl, hlo, heap_new _ _ _ h, fun j u hu => ?_⟩⟩
 rw [ndVals_one] at hu
 rw [Nat.zero_add]
 simpa [Nd.vals] using hu
set_option maxRecDepth 100000 in
theorem leaf_run (kind n : Int) (s : ByteArray) (w : World) : Calls Tryz.prog 69 #[.int .i64 kind, .int .i64 n, .string s] w (NewNodes w (leafT kind n s)) := by
 go_enter Tryz.func69, Tryz.ntmps69
 go_wp2_with fail
 go_ret
 exact ⟨_, rfl, one_node w ⟨kind, none_, n, s, 1⟩ _ rfl _ (Nat.le_refl _), (Old.refl w).alloc _⟩
set_option maxRecDepth 100000 in
theorem null_run (w : World) : Calls Tryz.prog 32 #[] w (NewNodes w (leafT 1 0 none_)) := by
 have C := hide (leaf_run 1 0 none_ w)
 go_enter Tryz.func32, Tryz.ntmps32
 go_wp2_with fail
 refine C.out.mono ?_
 rintro e w1 ⟨v, rfl, h1, h2⟩
 go_wp2_with fail
 go_ret
 exact ⟨_, rfl, h1, h2⟩
set_option maxRecDepth 100000 in
theorem num_run (n : Int) (w : World) : Calls Tryz.prog 114 #[.int .i64 n] w (NewNodes w (leafT 4 n none_)) := by
 have C := hide (leaf_run 4 n none_ w)
 go_enter Tryz.func114, Tryz.ntmps114
 go_wp2_with fail
 refine C.out.mono ?_
 rintro e w1 ⟨v, rfl, h1, h2⟩
 go_wp2_with fail
 go_ret
 exact ⟨_, rfl, h1, h2⟩
set_option maxRecDepth 100000 in
theorem bool_run (b : Bool) (w : World) : Calls Tryz.prog 113 #[.bool b] w (NewNodes w (leafT (if b then 3 else 2) 0 none_)) := by
 cases b
 · have C := hide (leaf_run 2 0 none_ w)
   go_enter Tryz.func113, Tryz.ntmps113
   go_wp2_with fail
   refine C.out.mono ?_
   rintro e w1 ⟨v, rfl, h1, h2⟩
   go_wp2_with fail
   go_ret
   exact ⟨_, rfl, h1, h2⟩
 · have C := hide (leaf_run 3 0 none_ w)
   go_enter Tryz.func113, Tryz.ntmps113
   go_wp2_with fail
   refine C.out.mono ?_
   rintro e w1 ⟨v, rfl, h1, h2⟩
   go_wp2_with fail
   go_ret
   exact ⟨_, rfl, h1, h2⟩
def strT (s : ByteArray) : List Nd := if vU s then leafT 5 0 s else []
set_option maxRecDepth 100000 in
theorem str_run (s : ByteArray) (w : World) (hs : s.size ≤ 9223372036854775807) (hT : Tabs w) : Calls Tryz.prog 28 #[.string s] w (NewNodes w (strT s)) := by
 have C := hide (show ∀ w', Old w w' → Calls Tryz.prog 69 #[.int .i64 5, .int .i64 0, .string s] w' fun e w2 => ∃ v, e = .returned v ∧ NodesT w.heap.size w2 v (leafT 5 0 s) ∧ Old w w2 from fun w' h =>
  (leaf_run 5 0 s w').mono fun _ _ ⟨v, h1, h2, h3⟩ => ⟨v, h1, h2.mono h.size, Old.trans h h3⟩)
 have CV := hide (utf_Valid s w hs hT)
 cases hv : vU s
 · rw [hv] at CV
   have E := hide (show strT s = [] by unfold strT; rw [hv]; rfl)
   clear hs hT hv C
   go_enter Tryz.func28, Tryz.ntmps28
   go_wp2_with fail
   refine CV.out.mono ?_
   rintro e w1 ⟨rfl, o1⟩
   go_wp2_with fail
   go_ret
   exact ⟨_, rfl, by rw [E.out]; exact SlT.nil_ _, o1⟩
 · rw [hv] at CV
   have E := hide (show strT s = leafT 5 0 s by unfold strT; rw [hv]; rfl)
   clear hs hT hv
   go_enter Tryz.func28, Tryz.ntmps28
   go_wp2_with fail
   refine CV.out.mono ?_
   rintro e w1 ⟨rfl, o1⟩
   go_wp2_with fail
   refine (C.out _ o1).mono ?_
   rintro e w2 ⟨v, rfl, h1, h2⟩
   go_wp2_with fail
   go_ret
   exact ⟨_, rfl, by rw [E.out]; exact h1, h2⟩
end Go.Proofs.YthlfljmfggmfdaaGreatDoor
namespace Go.Proofs.YthlfljmfggmfdaaGreatDoor
open Go.RowKit
def intVals (l : List Nat) : List Value := l.map (fun n : Nat => Value.int .i64 (n : Int))
theorem intVals_append (l m : List Nat) : intVals (l ++ m) = intVals l ++ intVals m := by simp [intVals]
abbrev IntsT (lo : Nat) (w : World) (v : Value) (l : List Nat) : Prop := SlT 3 lo w v l.length (intVals l)
abbrev IntsOwn (base : Nat) (w : World) (v : Value) (l : List Nat) : Prop := w.ownsRow base 3 1 v l.length (intVals l)
def NewInts (w0 : World) (l : List Nat) (e : Ending) (w' : World) : Prop := ∃ v, e = .returned v ∧ IntsT w0.heap.size w' v l ∧ Old w0 w'
theorem intInfo : (Tryz.prog.info? 3).map (fun i => (i.zero, i.size, i.bytes)) = some (some (.int .i64 0), 1, 8) := by kernel_rfl
theorem step_push_int {o : Oper} {a : Act} {K : Act → World → Prop} {Q : Exit → Act → World → Prop} (w : World) (s x : Operand)
 (ho : o.op = .call { callee := .builtin .append, args := #[s, x], argTypes := #[61, 61] })
 (base : Nat) (v : Value) (l : List Nat) (hs : a.eval s = v) (hown : IntsOwn base w v l) (g cap n : Nat) (hx : a.eval x = .slice (some ⟨g, 0, none⟩) 1 cap) (h0 : w.cell? ⟨g, 0, none⟩ = some (.int .i64 n))
 (hlen : l.length + 1 ≤ 4194304) (hbase : base ≤ w.heap.size)
 (h : ∀ v' w', IntsOwn base w' v' (l ++ [n]) → Kept 3 base w w' → K (a.put o.dst v') w') : o.wp Tryz.prog a w K Q := by
 obtain ⟨i0, hi, hz0, hz1, hz2⟩ := info_parts intInfo
 refine wp_append_own w s x 61 ho base 3 i0 (.int .i64 0) 1 8 Tryz.underlying61 hi hz0 hz1 hz2 rfl (by omega) v l.length (intVals l) hs hown ⟨g, 0, none⟩ 1 cap [.int .i64 n] hx rfl ?_ ?_ (by unfold maxLen; omega) (by omega) hbase ?_
 · intro j u hu
   match j, hu with
   | 0, hu => simp at hu; subst hu; exact h0
   | j + 1, hu => simp at hu
 · intro u hu
   simp at hu
   subst hu
   rfl
 · intro v' w' own' hg _
   refine h v' w' ?_ (Kept.of_grown hown hg hbase)
   have e : (l ++ [n]).length = l.length + 1 := by simp
   unfold IntsOwn
   rw [e, intVals_append]
   exact own'
def starts (at_ : Nat) : List J → List Nat
 | [] => []
 | j :: l => at_ :: starts (at_ + j.flat.length) l
theorem starts_append (at_ : Nat) (l m : List J) : starts at_ (l ++ m) = starts at_ l ++ starts (at_ + (J.flats l).length) m := by
 induction l generalizing at_ with
 | nil => simp [starts, J.flats]
 | cons j l ih => simp [starts, J.flats, ih, Nat.add_assoc]
theorem starts_length (at_ : Nat) (l : List J) : (starts at_ l).length = l.length := by
 induction l generalizing at_ with
 | nil => rfl
 | cons j l ih => simp [starts, ih]
theorem len_flats (l : List J) : l.length ≤ (J.flats l).length := by
 induction l with
 | nil => simp
 | cons j l ih =>
   have := flat_pos j
   rw [flats_cons, List.length_append, List.length_cons]
   omega
theorem drop_flat {t : List Nd} {a : Nat} {h : Hd} {l1 l2 : List J} {r : List Nd} (e : t.drop a = J.flat (.mk h (l1 ++ l2)) ++ r) : t.drop (a + 1 + (J.flats l1).length) = J.flats l2 ++ r := by
 rw [Nat.add_assoc, ← List.drop_drop, e, flat_mk, flats_append, List.cons_append, Nat.add_comm 1, List.drop_succ_cons, List.append_assoc, List.drop_left' rfl]
theorem head_flat {t : List Nd} {a : Nat} {j : J} {r : List Nd} (e : t.drop a = j.flat ++ r) : ∃ h : a < t.length, t[a] = ⟨j.hd.kind, j.hd.key, j.hd.n, j.hd.s, j.flat.length⟩ := by
 have hl := congrArg List.length e
 rw [List.length_append, List.length_drop] at hl
 have := flat_pos j
 have ha : a < t.length := by omega
 refine ⟨ha, ?_⟩
 obtain ⟨q, hq⟩ := flat_head j
 rw [List.drop_eq_getElem_cons ha] at e
 generalize j.flat.length = n at hq
 rw [hq, List.cons_append, List.cons.injEq] at e
 exact e.1
set_option maxRecDepth 100000 in
set_option maxHeartbeats 1000000 in
theorem kids_run (v : Value) (t : List Nd) (a : Nat) (h : Hd) (l : List J) (r : List Nd) (w : World) (ht : NodesIs w v t) (hl : t.length ≤ 4000) (hd : t.drop a = J.flat (.mk h l) ++ r) :
 Calls Tryz.prog 70 #[v, .int .i64 a] w (NewInts w (starts (a + 1) l)) := by
 obtain ⟨A, ca, rfl, hla, hma, hc⟩ := ht.nodes
 unfold maxLen at hma
 obtain ⟨ha, hta⟩ := head_flat (j := .mk h l) hd
 obtain ⟨b1, o1, rfl, hc1⟩ := hc.resolve_left (by omega)
 have HC := hide hc1
 obtain ⟨N, hN⟩ : ∃ N, Hid ((J.flats l).length = N) := ⟨_, hide rfl⟩
 obtain ⟨_, _, _, _, c4⟩ := hc1 a ha
 rw [hta] at c4
 have hsz : (J.flat (.mk h l)).length = N + 1 := by rw [flat_mk, List.length_cons, hN.out]
 simp only [hsz] at c4
 have HD := hide hd
 have hbound : a + (N + 1) ≤ t.length := by
  have e := congrArg List.length hd
  rw [List.length_append, List.length_drop, hsz] at e
  omega
 have C4 := hide c4
 clear ht hc hc1 c4 hd hsz hta
 go_enter Tryz.func70, Tryz.ntmps70
 go_wp2_with fail
 go_loopw [4, 5] (fun o i wr => ∃ (l1 l2 : List J) (p : Nat), i = .int .i64 p ∧ Hid (l = l1 ++ l2) ∧ Hid (p = a + 1 + (J.flats l1).length) ∧ p ≤ a + 1 + N ∧ Hid (IntsOwn w.heap.size wr o (starts (a + 1) l1)) ∧ Hid (Old w wr)) (fun _ i _ => a + 1 + N - (intOf i).toNat)
 case atStart => exact ⟨[], l, a + 1, by go_num, hide rfl, hide (by simp [J.flats]), by omega, hide (World.ownsRow_nil _ _ _ _), hide (Old.refl _)⟩
 case round =>
  obtain ⟨l1, l2, p, rfl, HL, HP, hp, HOWN, HO⟩ := hrel
  have c4 := HO.out.cell C4.out
  cases l2 with
  | nil =>
    have E := hide (show l = l1 by rw [HL.out]; simp)
    have hpe : p = a + 1 + N := by have h1 := HP.out; have h2 := hN.out; rw [E.out] at h2; omega
    have hpe1 : ¬ ((p : Int) < (a : Int) + ((N : Int) + 1)) := by omega
    have hpe2 : (a : Int) + ((N : Int) + 1) ≤ (p : Int) := by omega
    clear hpe
    go_wp2_with fail
    go_ret
    exact ⟨_, rfl, by rw [E.out]; exact SlT.of_own HOWN.out, HO.out⟩
  | cons j l3 =>
    have HDP := hide (show t.drop p = j.flat ++ (J.flats l3 ++ r) by
     rw [HP.out]
     have := HD.out
     rw [HL.out] at this
     rw [drop_flat this, flats_cons, List.append_assoc])
    obtain ⟨hpt, hpx⟩ := head_flat HDP.out
    obtain ⟨_, _, _, _, d4⟩ := HC.out p hpt
    rw [hpx] at d4
    have hq := flat_pos j
    have hpl : p + j.flat.length ≤ a + 1 + N := by
     have h1 := HP.out
     have h2 := hN.out
     rw [HL.out, flats_append, flats_cons, List.length_append, List.length_append] at h2
     omega
    have hst := len_flats l1
    have hst2 := starts_length (a + 1) l1
    have hp1 := HP.out
    have hlen : (starts (a + 1) l1).length + 1 ≤ 4194304 := by omega
    have HNEXT := hide (show starts (a + 1) (l1 ++ [j]) = starts (a + 1) l1 ++ [p] by rw [starts_append, ← HP.out]; rfl)
    have HP2 := hide (show p + j.flat.length = a + 1 + (J.flats (l1 ++ [j])).length by rw [flats_append, flats_one, List.length_append, ← Nat.add_assoc, ← HP.out])
    clear hst hst2 hp1 hpx
    obtain ⟨q, hqq⟩ : ∃ q, Hid (j.flat.length = q) := ⟨_, hide rfl⟩
    rw [hqq.out] at d4 hq hpl HP2
    have D4 := hide d4
    clear d4 hqq
    go_upto_region 3 with (at_builtin; refine wpList_plain rfl (fun K hK => ?_); refine step_push_int _ _ _ rfl w.heap.size _ (starts (a + 1) l1) rfl (own_old HOWN.out ((Old.refl wr).alloc _)) _ _ p rfl (by go_simp) hlen (HO.out.alloc _).size ?_; intro v' w2 own2 kept2; refine hK _ _ ?_; clear hK)
    have O2 := hide (kept2.old (HO.out.alloc _) (Nat.le_refl _))
    have d4 := O2.out.cell D4.out
    have OW2 := hide own2
    clear kept2 own2 c4
    go_wp2_with fail
    go_roundw
    case rel => exact ⟨l1 ++ [j], l3, p + q, by go_num, hide (by rw [HL.out]; simp), HP2, by omega, hide (by rw [HNEXT.out]; exact OW2.out), O2⟩
    case measure => simp [intOf]; omega
def kidsT (t : List Nd) (ks : List Nat) : Prop := (∃ h l, May t (.mk h l) ∧ ks = starts 1 l) ∨ (chkT t ≠ 0 ∧ ks = [])
set_option maxRecDepth 100000 in
set_option maxHeartbeats 400000 in
theorem Kids_run (v : Value) (t : List Nd) (ks : List Nat) (w : World) (ht : NodesIs w v t) (hk : TextsOk t) (hT : Tabs w) (hks : kidsT t ks) :
 Calls Tryz.prog 29 #[v] w (NewInts w ks) := by
 have CC := hide (check_run v t w ht hk hT)
 rcases hks with ⟨h, l, hj, rfl⟩ | ⟨hc, rfl⟩
 · have CK := hide (show ∀ w', Old w w' → Calls Tryz.prog 70 #[v, .int .i64 (0 : Nat)] w' fun e w2 => ∃ v, e = .returned v ∧ IntsT w.heap.size w2 v (starts (0 + 1) l) ∧ Old w w2 from fun w' ho =>
    (kids_run v t 0 h l [] w' (ht.old ho) hj.2.1 (by rw [List.drop_zero, List.append_nil]; exact hj.1.2.2)).mono fun _ _ ⟨v, h1, h2, h3⟩ => ⟨v, h1, h2.mono ho.size, Old.trans ho h3⟩)
   have C0 := hide (num_as CC.out (chkT_may hj))
   clear ht hk hT CC
   go_enter Tryz.func29, Tryz.ntmps29
   go_wp2_with fail
   refine C0.out.mono ?_
   rintro e w1 ⟨rfl, o1⟩
   go_wp2_with fail
   refine (CK.out _ o1).mono ?_
   rintro e w2 ⟨v2, rfl, h2, o2⟩
   go_wp2_with fail
   go_ret
   exact ⟨_, rfl, h2, o2⟩
 · have hc' : (chkT t != 0) = true := by simpa using hc
   clear ht hk hT hc
   go_enter Tryz.func29, Tryz.ntmps29
   go_wp2_with fail
   refine CC.out.mono ?_
   rintro e w1 ⟨rfl, o1⟩
   go_wp2_with fail
   go_ret
   exact ⟨_, rfl, SlT.nil_ _, o1⟩
end Go.Proofs.YthlfljmfggmfdaaGreatDoor
