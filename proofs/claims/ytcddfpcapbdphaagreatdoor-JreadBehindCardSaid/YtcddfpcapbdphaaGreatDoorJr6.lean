/- The reader of a text: a literal. -/
import Derived.Test.YtcddfpcapbdphaaGreatDoorJr5
import Derived.Test.YtcddfpcapbdphaaGreatDoorSufL
namespace Go.Proofs.YtcddfpcapbdphaaGreatDoor
open Go.RowKit

/-- what a part that reads a literal hands back -/
def JLit (base rb : Nat) (s : ByteArray) (out : List Nd) (H : List Jh) (key : ByteArray) (e bad : Int) (W : Except Bad (List UInt8 × List UInt8)) (y : Ending) (w' : World) : Prop :=
  match W with
  | .ok (t, r) => y = .returned (.tuple #[.string (bT t), .bool true]) ∧ JOk base rb s out H key e bad r w'
  | .error b => y = .returned (.tuple #[.string ⟨#[]⟩, .bool false]) ∧ JNo base rb s b w'
theorem litV_no {l : List UInt8} (h : nowB [34] l = false) : litV l = .error (l, 70) := by
  cases l with
  | nil => rfl
  | cons c r =>
    simp only [nowB, List.mem_singleton, decide_eq_false_iff_not] at h
    simp only [litV]
    exact if_pos h
theorem litV_at {r : List UInt8} : litV (34 :: r) = match unqV (34 :: r) with | .error e => .error (34 :: r, e) | .ok x => .ok x := by
  simp only [litV]
  rw [if_neg (fun h => h rfl)]
  cases unqV (34 :: r) <;> rfl
/-- what is left stands there -/
theorem JAt.suf {s : ByteArray} {n : Nat} {l r : List UInt8} (h : JAt s n l) (k : r <:+ l) : JAt s (n + (l.length - r.length)) r := by
  obtain ⟨p, rfl⟩ := k
  have e : (p ++ r).length - r.length = p.length := by rw [List.length_append]; omega
  refine ⟨by have := h.len; rw [List.length_append] at this ⊢; omega, ?_⟩
  rw [e, ← List.drop_drop, h.rest]
  exact List.drop_left ..
set_option maxRecDepth 100000 in
set_option maxHeartbeats 1000000 in
theorem literal_runB (base rb : Nat) (s : ByteArray) (n : Nat) (l : List UInt8) (out : List Nd) (H : List Jh) (key : ByteArray) (e bad : Int) (w : World) (h : JR base rb s n out H key e bad w) (ha : JAt s n l) (hs : s.size ≤ 1073741824) (hE : Ever base w) :
    Calls Tryz.prog 41 #[.pointer (some ⟨rb, 0, none⟩)] w fun y w' => JLit base rb s out H key e bad (litV l) y w' ∧ Bel base rb w w' := by
  have HJ := hide h
  have HA := hide ha
  have HE := hide hE
  have hbw := hide (show base ≤ w.heap.size from Nat.le_trans h.low (Nat.le_of_lt h.lt))
  have hn := HA.out.le
  clear h ha hE
  obtain ⟨B, hB⟩ : ∃ B, Hid (nowB [34] l = B) := ⟨_, hide rfl⟩
  have C1 := hide (ask_run base rb s n l out H key e bad w HJ.out HA.out 34 34 (by decide) B hB.out _ rfl)
  go_enter Tryz.func41, Tryz.ntmps41
  go_wp2_with fail
  refine C1.out.mono ?_
  rintro y w1 ⟨rfl, o1⟩
  have J1 := hide (HJ.out.old o1)
  have B1 := hide (Bel.ofOld (rb := rb) o1 hbw.out)
  obtain ⟨_, _, ⟨x0, x1, _, _, _, _, _⟩, hf, _, _⟩ := J1.out.cells
  have f1 := hf 1
  have hbw1 := hide (Nat.le_trans hbw.out B1.out.size)
  clear o1 C1 hf
  cases B with
  | false =>
    have CF := hide (jfail_runB base rb s n out H key e bad w1 J1.out (n : Int) 70)
    go_wp2_with fail
    refine CF.out.mono ?_
    rintro y w2 ⟨rfl, j2, b2⟩
    have J2 := hide j2
    have B2 := hide (B1.out.trans b2)
    clear j2 b2
    go_wp2_with fail
    go_ret2
    refine ⟨?_, B2.out⟩
    rw [litV_no hB.out]
    exact ⟨rfl, n, n, out, H, key, HA.out, J2.out⟩
  | true =>
    have hnmi : (n : Int) ≤ (s.size : Int) := by omega
    have y0 : ∀ w', Old w1 w' → w'.cell? ⟨rb, 0, none⟩ = some (.string s) := fun w' o => o.cell x0
    have y1 : ∀ w', Old w1 w' → w'.cell? ⟨rb, 1, none⟩ = some (.int .i64 (n : Int)) := fun w' o => o.cell x1
    have hTs : (s.extract n s.size).size = l.length := by rw [ByteArray.size_extract]; have := HA.out.len; omega
    have hTl : (s.extract n s.size).data.toList = l := (ext_list s n).trans HA.out.rest
    have UR := fun w' (o : Old w1 w') => unquote_run (s.extract n s.size) w' (by rw [ByteArray.size_extract]; omega) (HE.out w' (B1.out.trans (Bel.ofOld (rb := rb) o hbw1.out)).low).2
    rw [hTs, hTl] at UR
    clear hTs hTl x0 x1
    have LL := hide (show litV l = match unqV l with | .error e => .error (l, e) | .ok x => .ok x by
      obtain ⟨r, hr⟩ := now_yes hB.out
      rw [hr]
      exact litV_at)
    cases hu : unqV l with
    | error c =>
      rw [hu] at UR
      have NO := hide (show litV l = .error (l, c) by rw [LL.out, hu])
      have CP := hide (fun w' (o : Old w1 w') => (UR w' o).mono fun e w'' (h : e = .returned (unqE l.length (.error c)) ∧ Old w' w'') => (show e = .returned (.tuple #[.string ⟨#[]⟩, .int .i64 0, .int .i64 c]) ∧ Old w1 w'' from ⟨h.1, Old.trans o h.2⟩))
      have hc0 : (c != 0) = true := by
        have := unqV_err hu
        simp only [bne_iff_ne, ne_eq]
        omega
      clear UR hu LL
      go_wp2_with fail
      go_region_held (fun w' => Old w1 w')
        (first | assumption | (exact Old.drew (Old.refl _)) | (exact Old.drew (by assumption)))
        (first | (go_at_call 58; (with_reducible refine (CP.out _ (by assumption)).mono ?_); rintro y w30 ⟨rfl, o30⟩))
      all_goals
        have J6 := hide (J1.out.old o30)
        have B8 := hide (B1.out.trans (Bel.ofOld (rb := rb) o30 hbw1.out))
        have z1 : w30.cell? ⟨rb, 1, none⟩ = some (.int .i64 (n : Int)) := y1 _ o30
        have CF := hide (jfail_runB base rb s n out H key e bad w30 J6.out (n : Int) c)
        clear o30 y0 y1 CP
        go_wp2_with fail
        refine CF.out.mono ?_
        rintro y w8 ⟨rfl, j8, b8⟩
        have J8 := hide j8
        have B9 := hide (B8.out.trans b8)
        clear j8 b8
        go_wp2_with fail
        go_ret2
        refine ⟨?_, B9.out⟩
        rw [NO.out]
        exact ⟨rfl, n, n, out, H, key, HA.out, J8.out⟩
    | ok x =>
      obtain ⟨t, r⟩ := x
      rw [hu] at UR
      have YES := hide (show litV l = .ok (t, r) by rw [LL.out, hu])
      obtain ⟨k, hk⟩ : ∃ k : Nat, Hid (l.length - r.length = k) := ⟨_, hide rfl⟩
      have CP := hide (fun w' (o : Old w1 w') => (UR w' o).mono fun e w'' (h : e = .returned (unqE l.length (.ok (t, r))) ∧ Old w' w'') => (show e = .returned (.tuple #[.string (bT t), .int .i64 (k : Int), .int .i64 0]) ∧ Old w1 w'' from ⟨by rw [h.1, ← hk.out]; rfl, Old.trans o h.2⟩))
      have NX := hide (show JAt s (n + k) r by rw [← hk.out]; exact HA.out.suf (unqV_suf hu))
      have hnk := NX.out.le
      clear UR hu LL
      go_wp2_with fail
      go_region_held (fun w' => Old w1 w')
        (first | assumption | (exact Old.drew (Old.refl _)) | (exact Old.drew (by assumption)))
        (first | (go_at_call 58; (with_reducible refine (CP.out _ (by assumption)).mono ?_); rintro y w30 ⟨rfl, o30⟩))
      all_goals
        have J6 := hide (J1.out.old o30)
        have B8 := hide (B1.out.trans (Bel.ofOld (rb := rb) o30 hbw1.out))
        have z1 : w30.cell? ⟨rb, 1, none⟩ = some (.int .i64 (n : Int)) := y1 _ o30
        obtain ⟨_, _, _, hf, _⟩ := J6.out.cells
        have f30 := hf 1
        have KK := hide (show JOk base rb s out H key e bad r (w30.setCell ⟨rb, 1, none⟩ (.int .i64 ((n : Int) + (k : Int)))) from ⟨n + k, NX.out, J6.out.setAt (n + k) (by simp)⟩)
        have B9 := hide (B8.out.trans (J6.out.keepB 1 (.int .i64 ((n : Int) + (k : Int))) (by decide)))
        clear o30 y0 y1 CP hf
        go_wp2_with fail
        go_ret2
        refine ⟨?_, B9.out⟩
        rw [YES.out]
        exact ⟨rfl, KK.out⟩
theorem literal_run (base rb : Nat) (s : ByteArray) (n : Nat) (l : List UInt8) (out : List Nd) (H : List Jh) (key : ByteArray) (e bad : Int) (w : World) (h : JR base rb s n out H key e bad w) (ha : JAt s n l) (hs : s.size ≤ 1073741824) (hE : Ever base w) :
    Calls Tryz.prog 41 #[.pointer (some ⟨rb, 0, none⟩)] w fun y w' => JLit base rb s out H key e bad (litV l) y w' ∧ RowKit.Below base w w' :=
  (literal_runB base rb s n l out H key e bad w h ha hs hE).mono fun _ _ k => ⟨k.1, k.2.low⟩
end Go.Proofs.YtcddfpcapbdphaaGreatDoor

