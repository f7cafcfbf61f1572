/- JshowShort: what is read is shown in no more bytes than it had, and then read as the same. -/
import Derived.Test.YtmolmphbhdbcaaaGreatDoorBackW
namespace Go.Proofs.YtmolmphbhdbcaaaGreatDoor
open Go.RowKit

/-! ### numbers that are read -/
theorem leafV_nums {c : UInt8} {l r : List UInt8} {j : J} (h : leafV c l = .ok (j, r)) : NumsOk j.flat := by
  have one : ∀ (k n : Int) (s : ByteArray), -9223372036854775808 ≤ n ∧ n ≤ 9223372036854775807 → NumsOk (oneJ k n s).flat := fun k n s h x hx => by
    have e : x = ⟨k, none_, n, s, 1⟩ := by simpa [oneJ, J.flat, J.flats] using hx
    rw [e]
    exact h
  unfold leafV at h
  repeat' split at h
  all_goals first | (cases h; done) | skip
  all_goals (injection h with h; injection h with h1 h2; subst h1 h2; rename_i hw)
  · exact one _ _ _ (by omega)
  · exact one _ _ _ (by omega)
  · exact one _ _ _ (by omega)
  · exact one _ _ _ (by omega)
  · refine one _ _ _ ?_
    unfold numV at hw
    split at hw
    · cases hw
    split at hw
    · cases hw
    split at hw
    · cases hw
    split at hw
    · cases hw
    rename_i hc
    injection hw with hw
    injection hw with e1 e2
    subst e1
    simp only [not_or, Int.not_lt] at hc
    omega
theorem nums_rekey {k : ByteArray} {j : J} (h : NumsOk j.flat) : NumsOk (j.rekey k).flat := by
  cases j with
  | mk hd l =>
    intro x hx
    rw [J.rekey, flat_mk, List.mem_cons] at hx
    rcases hx with rfl | hx
    · exact h ⟨hd.kind, hd.key, hd.n, hd.s, (J.flats l).length + 1⟩ (by rw [flat_mk]; exact List.mem_cons_self ..)
    · exact h x (by rw [flat_mk]; exact List.mem_cons_of_mem _ hx)
theorem nums_mk {k : Int} {l : List J} (h : NumsOk (J.flats l)) : NumsOk (J.flat (.mk ⟨k, none_, 0, none_⟩ l)) := by
  intro x hx
  rw [flat_mk, List.mem_cons] at hx
  rcases hx with rfl | hx
  · exact ⟨by show (-9223372036854775808 : Int) ≤ 0; omega, by show (0 : Int) ≤ 9223372036854775807; omega⟩
  · exact h x hx
theorem nums_both : ∀ f : Nat, (∀ (n d : Nat) (l r : List UInt8) (j : J), pv f n d l = .ok (j, r) → NumsOk j.flat) ∧
    ∀ (obj : Bool) (n d : Nat) (had : List ByteArray) (l r : List UInt8) (js : List J), pp f obj n d had l = .ok (js, r) → NumsOk (J.flats js)
  | 0 => by
    refine ⟨fun _ _ _ _ _ h => ?_, fun _ _ _ _ _ _ _ h => ?_⟩
    · simp only [pv] at h
      cases h
    · simp only [pp] at h
      cases h
  | f + 1 => by
    obtain ⟨ihv, ihp⟩ := nums_both f
    refine ⟨fun n d l r j h => ?_, fun obj n d had l r js h => ?_⟩
    · cases l with
      | nil => simp only [pv] at h; cases h
      | cons c l =>
        simp only [pv] at h
        split at h
        · cases h
        split at h
        · cases h
        split at h
        · cases h
        split at h
        · split at h
          · injection h with h; injection h with h _; subst h
            exact nums_mk (by intro x hx; simp [J.flats] at hx)
          · split at h
            · cases h
            rename_i js r2 hp
            injection h with h; injection h with h _; subst h
            exact nums_mk (ihp _ _ _ _ _ _ _ hp)
        · exact leafV_nums h
    · simp only [pp] at h
      split at h
      · cases h
      split at h
      · cases h
      rename_i j l2 hv
      split at h
      · cases h
      · injection h with h; injection h with h _; subst h
        rw [flats_one]
        exact nums_rekey (ihv _ _ _ _ _ hv)
      · split at h
        · cases h
        rename_i js2 l4 hp
        injection h with h; injection h with h _; subst h
        rw [flats_cons]
        intro x hx
        rcases List.mem_append.1 hx with hx | hx
        · exact nums_rekey (ihv _ _ _ _ _ hv) x hx
        · exact ihp _ _ _ _ _ _ _ hp x hx
theorem parse_parts {l : List UInt8} {j : J} (h : parseV l = .ok j) : ∃ r, pv (fuelOf l) 0 0 (skipB l) = .ok (j, r) := by
  unfold parseV at h
  split at h
  · cases h
  split at h
  · cases h
  rename_i j' r hp
  split at h
  · injection h with h
    subst h
    exact ⟨r, hp⟩
  · cases h
/-- what is read of few bytes is fine to be shown -/
theorem shown_parse {l : List UInt8} {j : J} (h : parseV l = .ok j) (hl : l.length ≤ 1000) : Shown 4000 j.flat j := by
  obtain ⟨r, hp⟩ := parse_parts h
  have hs := skipB_len l
  have h1 := ((short_both _).1 1000 _ _ _ _ _ hp (by omega)).1
  have h2 := (nums_both _).1 _ _ _ _ _ hp
  have h3 := (parseV_size h).1
  refine ⟨parseV_may h, ⟨fun x hx => ?_, by omega, ?_⟩, by have := parse_short h; omega⟩
  · have := h1 x hx
    have := h2 x hx
    omega
  · have a1 : j.flat.length * (12 * 4000 + 32) ≤ 1000 * 48032 := Nat.mul_le_mul (by omega) (by omega)
    have a2 : j.flat.length * (j.flat.length * (12 * 4000 + 32)) ≤ 1000 * (1000 * 48032) := Nat.mul_le_mul (by omega) a1
    omega
theorem nil_show : ShowT [] [] 60 := .inl ⟨by decide +kernel, by kernel_rfl, rfl⟩
theorem nil_fine : Fine 5 [] := fine_tiny (by intro x hx; simp at hx) (by simp)
theorem nil_nodes (w : World) : NodesIs w (.slice none 0 0) [] := Sl.nil_ w
set_option maxRecDepth 100000 in
set_option maxHeartbeats 4000000 in
theorem jshort_walk (s : ByteArray) (w : World) (hT : Tabs w) (hE : Errs w) (hP : PowTab w) :
    Calls Tryz.prog 3 #[.string s] w fun e w' => e = .returned (.bool true) ∧ Old w w' := by
  have HT := hide hT
  have HE := hide hE
  have HP := hide hP
  have CWK := hide (fun (w' : World) (o : Old w w') => works_run w' (hT.old o) (hP.old o))
  obtain ⟨k, hk⟩ : ∃ k : Nat, Hid (min s.size 1000 = k) := ⟨_, hide rfl⟩
  have hk1 : k ≤ s.size := by rw [← hk.out]; omega
  have hk2 : k ≤ 1000 := by rw [← hk.out]; omega
  have hmin : min (s.size : Int) 1000 = (k : Int) := by rw [← hk.out]; omega
  obtain ⟨u, hu⟩ : ∃ u, Hid (s.extract 0 k = u) := ⟨_, hide rfl⟩
  have hus : u.size ≤ 1000 := by rw [← hu.out, ByteArray.size_extract]; omega
  have hu' := hu.out
  have CP := hide (jparse_run u w (by omega) hE hT)
  clear hE hT hP
  cases hp : parseV u.data.toList with
  | error x =>
    obtain ⟨p, c⟩ := x
    obtain ⟨hc, hpl⟩ := parseV_no hp
    have CQ := hide (CP.out.mono fun e w' h => (show e = .returned (.tuple #[.slice none 0 0, .int .i64 (p : Int), .int .i64 c]) ∧ Old w w' from ⟨by
      have h1 := h.1
      unfold JParsed at h1
      rw [hp] at h1
      exact h1, h.2⟩))
    have hc0 : (c != 0) = true := by simp; omega
    clear hp CP hpl
    go_enter Tryz.func3, Tryz.ntmps3
    go_wp2_with fail
    refine CQ.out.mono ?_
    rintro e w1 ⟨rfl, o1⟩
    have O1 := hide o1
    have CS := hide (show_run 5 _ [] [] 60 w1 (nil_nodes w1) nil_fine (HT.out.old o1) (HP.out.old o1) nil_show)
    unfold strE at CS
    clear o1
    go_wp2_with fail
    refine CS.out.mono ?_
    rintro e w2 ⟨rfl, o2⟩
    have O2 := hide (Old.trans O1.out o2)
    clear o2
    go_wp2_with fail
    refine (CWK.out _ O2.out).mono ?_
    rintro e w3 ⟨rfl, o3⟩
    have O3 := hide (Old.trans O2.out o3)
    clear o3
    go_wp2_with fail
    go_ret
    exact ⟨rfl, O3.out⟩
  | ok j =>
    have SH := hide (shown_parse hp (by rw [list_size]; exact hus))
    have CQ := hide (parse_ok u j w (by omega) hp HE.out HT.out)
    have hle := parse_short hp
    rw [list_size] at hle
    obtain ⟨X, hX⟩ : ∃ X : ByteArray, Hid ((⟨j.show.toArray⟩ : ByteArray) = X) := ⟨_, hide rfl⟩
    have HXL := hide (show parseV X.data.toList = .ok j by rw [← hX.out, out_list]; exact SH.out.back)
    have hXs : X.size ≤ u.size := by rw [← hX.out, out_size]; exact hle
    have hXi : (X.size : Int) ≤ (u.size : Int) := by omega
    clear hp CP hle
    go_enter Tryz.func3, Tryz.ntmps3
    go_wp2_with fail
    refine CQ.out.mono ?_
    rintro e w1 ⟨⟨v1, rfl, n1⟩, o1⟩
    have O1 := hide o1
    have N1 := hide (SlT.sl n1)
    have CS := hide (show_run 4000 v1 j.flat _ 0 w1 (SlT.sl n1) SH.out.fine (HT.out.old o1) (HP.out.old o1) SH.out.says)
    unfold strE at CS
    rw [hX.out] at CS
    clear o1 n1
    go_wp2_with fail
    refine CS.out.mono ?_
    rintro e w2 ⟨rfl, o2⟩
    have O2 := hide (Old.trans O1.out o2)
    have N2 := hide (N1.out.old o2)
    clear o2 CS
    go_wp2_with fail
    refine (parse_ok X j w2 (by omega) HXL.out (HE.out.old O2.out) (HT.out.old O2.out)).mono ?_
    rintro e w3 ⟨⟨v3, rfl, n3⟩, o3⟩
    have O3 := hide (Old.trans O2.out o3)
    have M3 := hide (SlT.sl n3)
    have N3 := hide (N2.out.old o3)
    have CS := hide (show_run 4000 v3 j.flat _ 0 w3 (SlT.sl n3) SH.out.fine (HT.out.old O3.out) (HP.out.old O3.out) SH.out.says)
    unfold strE at CS
    rw [hX.out] at CS
    clear o3 n3
    go_wp2_with fail
    refine CS.out.mono ?_
    rintro e w4 ⟨rfl, o4⟩
    have O4 := hide (Old.trans O3.out o4)
    have CE := hide (law_eq v1 v3 j.flat j.flat w4 (N3.out.old o4) (M3.out.old o4))
    rw [same_self] at CE
    clear o4 CS
    go_wp2_with fail
    refine CE.out.mono ?_
    rintro e w5 ⟨rfl, o5⟩
    have O5 := hide (Old.trans O4.out o5)
    clear o5
    go_wp2_with fail
    refine (CWK.out _ O5.out).mono ?_
    rintro e w6 ⟨rfl, o6⟩
    have O6 := hide (Old.trans O5.out o6)
    clear o6
    go_wp2_with fail
    go_ret
    exact ⟨rfl, O6.out⟩
end Go.Proofs.YtmolmphbhdbcaaaGreatDoor
