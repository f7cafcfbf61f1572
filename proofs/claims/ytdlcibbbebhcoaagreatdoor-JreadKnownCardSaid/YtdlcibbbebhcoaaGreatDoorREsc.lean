/- The document's escape: what an escape says, and how many bytes it has. -/
import Derived.Test.YtdlcibbbebhcoaaGreatDoorRHalf
import Derived.Test.YtdlcibbbebhcoaaGreatDoorRPutL
import Derived.Test.YtdlcibbbebhcoaaGreatDoorSufL
/-! ### The document's escape: what an escape says, and how many bytes it has. -/
namespace Go.Proofs.YtdlcibbbebhcoaaGreatDoor
open Go.RowKit

theorem half4_four {s : Bool} {l r : List UInt8} {k : Nat} (h : half4 s l = .ok (k, r)) : l.length = r.length + 4 ∧ r = l.drop 4 := by
  have hx : ∀ {l r : List UInt8} {k : Nat}, hex1 l = .ok (k, r) → l.length = r.length + 1 ∧ r = l.drop 1 := by
    intro l r k h
    cases l with
    | nil => cases h
    | cons c l =>
      simp only [hex1] at h
      split at h
      · cases h
      · injection h with h
        injection h with _ h2
        subst h2
        exact ⟨rfl, rfl⟩
  unfold half4 at h
  split at h
  · cases h
  rename_i a l1 h1
  split at h
  · cases h
  split at h
  · cases h
  rename_i b l2 h2
  split at h
  · cases h
  split at h
  · cases h
  rename_i c l3 h3
  split at h
  · cases h
  rename_i d l4 h4
  injection h with h
  injection h with e1 e2
  subst e1 e2
  obtain ⟨a1, b1⟩ := hx h1
  obtain ⟨a2, b2⟩ := hx h2
  obtain ⟨a3, b3⟩ := hx h3
  obtain ⟨a4, b4⟩ := hx h4
  refine ⟨by omega, ?_⟩
  rw [b4, b3, b2, b1, List.drop_drop, List.drop_drop, List.drop_drop]
abbrev escA : ByteArray := ⟨#[34, 92, 47, 98, 102, 110, 114, 116]⟩
abbrev escB : ByteArray := ⟨#[34, 92, 47, 8, 12, 10, 13, 9]⟩
theorem esc_hit (k : Nat) (hk : k < 8) (c : UInt8) (h : escA[k]'hk = c) (r : List UInt8) : ∃ u : UInt8, escV (c :: r) = .ok ([u], r) ∧ escB.extract k (k + 1) = bT [u] := by
  subst h
  have h8 : k = 0 ∨ k = 1 ∨ k = 2 ∨ k = 3 ∨ k = 4 ∨ k = 5 ∨ k = 6 ∨ k = 7 := by omega
  rcases h8 with rfl | rfl | rfl | rfl | rfl | rfl | rfl | rfl
  · exact ⟨34, by rfl, by rfl⟩
  · exact ⟨92, by rfl, by rfl⟩
  · exact ⟨47, by rfl, by rfl⟩
  · exact ⟨8, by rfl, by rfl⟩
  · exact ⟨12, by rfl, by rfl⟩
  · exact ⟨10, by rfl, by rfl⟩
  · exact ⟨13, by rfl, by rfl⟩
  · exact ⟨9, by rfl, by rfl⟩
theorem esc_miss (c : UInt8) (h : ∀ k, (hk : k < 8) → escA[k]'hk ≠ c) : c ≠ 47 ∧ shortV c = none := by
  have h0 : (34 : UInt8) ≠ c := h 0 (by omega)
  have h1 : (92 : UInt8) ≠ c := h 1 (by omega)
  have h2 : (47 : UInt8) ≠ c := h 2 (by omega)
  have h3 : (98 : UInt8) ≠ c := h 3 (by omega)
  have h4 : (102 : UInt8) ≠ c := h 4 (by omega)
  have h5 : (110 : UInt8) ≠ c := h 5 (by omega)
  have h6 : (114 : UInt8) ≠ c := h 6 (by omega)
  have h7 : (116 : UInt8) ≠ c := h 7 (by omega)
  refine ⟨Ne.symm h2, ?_⟩
  unfold shortV
  rw [if_neg (Ne.symm h0), if_neg (Ne.symm h1), if_neg (Ne.symm h3), if_neg (Ne.symm h4), if_neg (Ne.symm h5), if_neg (Ne.symm h6), if_neg (Ne.symm h7)]
/-- an escape of two halves, from its second half on -/
def escH (n : Nat) (l : List UInt8) : Except Int (List UInt8 × List UInt8) :=
  match half4 true l with
  | .error e => .error e
  | .ok (k, r) => .ok (encL (pairOf n k), r)
def escK7 (n : Nat) (l : List UInt8) : Except Int (List UInt8 × List UInt8) :=
  match want1 117 l with
  | .error e => .error e
  | .ok r => escH n r
def escK6 (n : Nat) (l : List UInt8) : Except Int (List UInt8 × List UInt8) :=
  match want1 92 l with
  | .error e => .error e
  | .ok r => escK7 n r
theorem esc_u {r : List UInt8} : escV (117 :: r) = match half4 false r with
    | .error e => .error e
    | .ok (n, r1) => if isHigh n = true then escK6 n r1 else .ok (encL n, r1) := by
  simp only [escV]
  rw [if_neg (by decide), show shortV 117 = none by rfl]
  simp only [ne_eq, not_true, if_false]
  cases half4 false r with
  | error e => rfl
  | ok x =>
    obtain ⟨n, r1⟩ := x
    simp only
    split
    · unfold escK6
      cases want1 92 r1 with
      | error e => rfl
      | ok r2 =>
        simp only
        unfold escK7
        cases want1 117 r2 with
        | error e => rfl
        | ok r3 =>
          simp only
          unfold escH
          cases half4 true r3 with
          | error e => rfl
          | ok y => rfl
    · rfl
theorem esc_else {c : UInt8} {r : List UInt8} (h : c ≠ 47 ∧ shortV c = none) (h1 : c ≠ 117) : escV (c :: r) = .error 41 := by
  simp only [escV]
  rw [if_neg h.1, h.2]
  simp only
  rw [if_pos h1]
def escK (n k : Nat) (l : List UInt8) : Except Int (List UInt8 × List UInt8) := if k = 6 then escK6 n l else if k = 7 then escK7 n l else escH n l
theorem escK_6 (n : Nat) (l : List UInt8) : escK n 6 l = escK6 n l := rfl
theorem escK_7 (n : Nat) (l : List UInt8) : escK n 7 l = escK7 n l := rfl
theorem escK_8 (n : Nat) (l : List UInt8) : escK n 8 l = escH n l := rfl
theorem high_iff (n : Nat) : isHigh n = true ↔ 55296 ≤ n ∧ n ≤ 56319 := by unfold isHigh; simp; omega
theorem escE_ok {N m : Nat} {t r : List UInt8} {X : ByteArray} (hr : r.length + m = N) (hX : X = bT t) : unqE N (.ok (t, r)) = .tuple #[.string X, .int .i64 (m : Int), .int .i64 0] := by
  subst hX
  have h : N - r.length = m := by omega
  subst h
  rfl
set_option maxRecDepth 100000 in
set_option maxHeartbeats 4000000 in
theorem rescape_run (s : ByteArray) (w : World) (h1 : 1 ≤ s.size) (hs : s.size ≤ 1073741824) : Calls Tryz.prog 61 #[.string s] w fun e w' => e = .returned (unqE s.size (escV (s.data.toList.drop 1))) ∧ Old w w' := by
  obtain ⟨R, hR⟩ : ∃ R, Hid (escV (s.data.toList.drop 1) = R) := ⟨_, hide rfl⟩
  rw [hR.out]
  by_cases h2 : s.size < 2
  · have FIN := hide (show R = .error 3 by
      rw [← hR.out, List.drop_eq_nil_of_le (by rw [list_size]; omega)]
      rfl)
    have h2i : (s.size : Int) < 2 := by omega
    go_enter Tryz.func61, Tryz.ntmps61
    go_wp2_with fail
    go_ret3
    exact ⟨by rw [FIN.out]; rfl, Old.refl _⟩
  have hl1 : 1 < s.size := by omega
  have hd1 := drop_at hl1
  obtain ⟨c, hc⟩ : ∃ c, s[1]'hl1 = c := ⟨_, rfl⟩
  rw [hc] at hd1
  have h2i : ¬ (s.size : Int) < 2 := by omega
  have h1i : (1 : Int) < (s.size : Int) := by omega
  have HIT := hide (show ∀ k, (hk : k < 8) → escA[k]'hk = c → R = .ok ((escB.extract k (k + 1)).data.toList, s.data.toList.drop 2) from fun k hk h => by
    obtain ⟨u, e1, e2⟩ := esc_hit k hk c h (s.data.toList.drop 2)
    rw [← hR.out, hd1, e1, e2]
    rfl)
  have MISS := hide (show (∀ k, (hk : k < 8) → escA[k]'hk ≠ c) → (c ≠ 117 → R = .error 41) ∧ (c = 117 → R = match half4 false (s.data.toList.drop 2) with
    | .error e => .error e
    | .ok (n, r1) => if isHigh n = true then escK6 n r1 else .ok (encL n, r1)) from fun h => ⟨fun hn => by
      rw [← hR.out, hd1]
      exact esc_else (esc_miss c h) hn, fun hn => by
      rw [← hR.out, hd1, hn, esc_u]⟩)
  clear hd1
  go_enter Tryz.func61, Tryz.ntmps61
  go_wp2_with fail
  go_loopw [5] (fun i wr => ∃ k : Nat, i = .int .i64 k ∧ k ≤ 8 ∧ Hid (∀ m, (hm : m < 8) → m < k → escA[m]'hm ≠ c) ∧ Hid (Old w wr)) (fun i _ => 8 - (intOf i).toNat)
  case atStart => exact ⟨0, rfl, by omega, hide (fun m hm h => by omega), hide (Old.refl _)⟩
  case round =>
    obtain ⟨k, rfl, hk, HN, HO⟩ := hrel
    by_cases hlt : k < 8
    · obtain ⟨y, hy⟩ : ∃ y, (⟨#[34, 92, 47, 98, 102, 110, 114, 116]⟩ : ByteArray)[k]'hlt = y := ⟨_, rfl⟩
      by_cases hcy : y = c
      · have FIN := hide (show unqE s.size R = .tuple #[.string (escB.extract k (k + 1)), .int .i64 2, .int .i64 0] by
          rw [HIT.out k hlt (by rw [← hcy]; exact hy)]
          exact escE_ok (m := 2) (by rw [List.length_drop, list_size]; omega) (bT_of _).symm)
        have hq : ((c.toNat : Int) == (y.toNat : Int)) = true := by rw [hcy]; simp
        clear hcy
        go_wp2_with fail
        go_region
        all_goals
          go_wp2_with fail
          go_ret3
          exact ⟨by rw [FIN.out]; rfl, Old.drewN HO.out _⟩
      · have hq : ((c.toNat : Int) == (y.toNat : Int)) = false := by
          have : c.toNat ≠ y.toNat := fun e => hcy (UInt8.toNat_inj.1 e.symm)
          simp; omega
        have HN2 := hide (show ∀ m, (hm : m < 8) → m < k + 1 → escA[m]'hm ≠ c from fun m hm h => by
          by_cases e : m = k
          · subst e
            show (⟨#[34, 92, 47, 98, 102, 110, 114, 116]⟩ : ByteArray)[m]'hlt ≠ c
            rw [hy]
            exact hcy
          · exact HN.out m hm (by omega))
        clear hcy
        go_wp2_with fail
        go_region
        all_goals
          go_wp2_with fail
          go_roundw
          case rel => exact ⟨k + 1, by go_num, by omega, HN2, hide (Old.drewN HO.out _)⟩
          case measure => simp [intOf]; omega
    · obtain rfl : k = 8 := by omega
      obtain ⟨m1, m2⟩ := MISS.out (fun m hm => HN.out m hm hm)
      clear MISS HIT HN
      by_cases c117 : c = 117
      · have hq : ((c.toNat : Int) != 117) = false := by rw [c117]; rfl
        have M2 := hide (m2 c117)
        obtain ⟨u, hu⟩ : ∃ u, Hid (s.extract 2 s.size = u) := ⟨_, hide rfl⟩
        have hul : u.data.toList = s.data.toList.drop 2 := by rw [← hu.out]; exact ext_list s 2
        have CH := hide (rhalf_run u false wr)
        rw [hul] at CH
        have h2j : (2 : Int) ≤ (s.size : Int) := by omega
        clear m1 m2 c117 hul
        cases h4 : half4 false (s.data.toList.drop 2) with
        | error e =>
          rw [h4] at CH M2
          have FIN := hide (show R = .error e from M2.out)
          have hee : (e != 0) = true := by have := half4_err h4; simp; omega
          unfold halfE at CH
          clear M2 h4
          go_wp2_with fail
          rw [hu.out]
          refine CH.out.mono ?_
          rintro x w1 ⟨rfl, o1⟩
          have O1 := hide (Old.trans HO.out o1)
          clear o1
          go_wp2_with fail
          go_ret3
          exact ⟨by rw [FIN.out]; rfl, O1.out⟩
        | ok x =>
          obtain ⟨n, r1⟩ := x
          rw [h4] at CH M2
          have M3 := hide (show R = if isHigh n = true then escK6 n r1 else .ok (encL n, r1) from M2.out)
          obtain ⟨hlen, hrd⟩ := half4_four h4
          have hn64 := (half4_less h4).2
          have HRD := hide (show s.data.toList.drop 6 = r1 by rw [hrd, List.drop_drop])
          have HRL := hide (show r1.length + 6 = s.size by rw [List.length_drop, list_size] at hlen; omega)
          have h6s : 6 ≤ s.size := by have := HRL.out; omega
          unfold halfE at CH
          cases hh : isHigh n with
          | false =>
            obtain ⟨sc, _⟩ := half_scalar h4 hh
            have FIN := hide (show unqE s.size R = .tuple #[.string (bT (encL n)), .int .i64 6, .int .i64 0] by
              rw [M3.out, if_neg (by rw [hh]; decide)]
              exact escE_ok HRL.out rfl)
            have CP := hide (fun w1 => rput_run n w1 (by omega))
            rw [put_val sc] at CP
            have two : n < 55296 ∨ (55296 ≤ n ∧ 56319 < n) := by
              rcases Nat.lt_or_ge n 55296 with h | h
              · exact .inl h
              · refine .inr ⟨h, Nat.lt_of_not_le fun h2 => ?_⟩
                rw [(high_iff n).2 ⟨h, h2⟩] at hh
                cases hh
            clear M2 M3 h4 hrd hlen sc hh HRD
            rcases two with hlow | ⟨hge, hgt⟩
            · have q1 : (n : Int) < 55296 := by omega
              have q2 : decide ((n : Int) < 55296) = true := decide_eq_true q1
              clear hlow
              go_wp2_with fail
              rw [hu.out]
              refine CH.out.mono ?_
              rintro x w1 ⟨rfl, o1⟩
              have O1 := hide (Old.trans HO.out o1)
              clear o1
              go_wp2_with fail
              refine (CP.out _).mono ?_
              rintro x w2 ⟨rfl, o2⟩
              have O2 := hide (Old.trans O1.out o2)
              clear o2
              go_wp2_with fail
              go_ret3
              exact ⟨by rw [FIN.out]; rfl, O2.out⟩
            · have q1 : ¬ (n : Int) < 55296 := by omega
              have q2 : decide ((n : Int) < 55296) = false := decide_eq_false q1
              have q3 : (56319 : Int) < (n : Int) := by omega
              have q4 : decide ((56319 : Int) < (n : Int)) = true := decide_eq_true q3
              clear hge hgt
              go_wp2_with fail
              rw [hu.out]
              refine CH.out.mono ?_
              rintro x w1 ⟨rfl, o1⟩
              have O1 := hide (Old.trans HO.out o1)
              clear o1
              go_wp2_with fail
              refine (CP.out _).mono ?_
              rintro x w2 ⟨rfl, o2⟩
              have O2 := hide (Old.trans O1.out o2)
              clear o2
              go_wp2_with fail
              go_ret3
              exact ⟨by rw [FIN.out]; rfl, O2.out⟩
          | true =>
            obtain ⟨hge, hgt⟩ := (high_iff n).1 hh
            have K6 := hide (show R = escK n 6 (s.data.toList.drop 6) by
              rw [M3.out, if_pos hh, HRD.out]
              rfl)
            have PS := hide (fun k r (h : half4 true (s.data.toList.drop 8) = .ok (k, r)) => pair_scalar hh h)
            have q1 : ¬ (n : Int) < 55296 := by omega
            have q2 : decide ((n : Int) < 55296) = false := decide_eq_false q1
            have q3 : ¬ (56319 : Int) < (n : Int) := by omega
            have q4 : decide ((56319 : Int) < (n : Int)) = false := decide_eq_false q3
            clear M2 M3 h4 hrd hlen hh HRD HRL
            go_wp2_with fail
            rw [hu.out]
            refine CH.out.mono ?_
            rintro x w1 ⟨rfl, o1⟩
            have O1 := hide (Old.trans HO.out o1)
            clear o1 CH HO
            go_wp2_with fail
            go_loopw [10] (fun i wr => ∃ k : Nat, i = .int .i64 k ∧ 6 ≤ k ∧ k ≤ 8 ∧ k ≤ s.size ∧ Hid (R = escK n k (s.data.toList.drop k)) ∧ Hid (Old w wr)) (fun i _ => 8 - (intOf i).toNat)
            case atStart => exact ⟨6, rfl, by omega, by omega, h6s, K6, O1⟩
            case round =>
              clear K6 O1 w1
              obtain ⟨k, rfl, hk6, hk8, hks, KR, HO⟩ := hrel
              by_cases e8 : k = 8
              · subst e8
                have KR2 := hide (show R = escH n (s.data.toList.drop 8) from KR.out)
                have hk8i : (8 : Int) ≤ (s.size : Int) := by omega
                obtain ⟨u, hu⟩ : ∃ u, Hid (s.extract 8 s.size = u) := ⟨_, hide rfl⟩
                have hul : u.data.toList = s.data.toList.drop 8 := by rw [← hu.out]; exact ext_list s 8
                have CH := hide (rhalf_run u true wr)
                rw [hul] at CH
                clear KR hul hk6 hk8
                cases h4 : half4 true (s.data.toList.drop 8) with
                | error e =>
                  rw [h4] at CH
                  have FIN := hide (show R = .error e by rw [KR2.out]; unfold escH; rw [h4])
                  have hee : (e != 0) = true := by have := half4_err h4; simp; omega
                  unfold halfE at CH
                  clear KR2 PS h4
                  go_wp2_with fail
                  rw [hu.out]
                  refine CH.out.mono ?_
                  rintro x w1 ⟨rfl, o1⟩
                  have O1 := hide (Old.trans HO.out o1)
                  clear o1
                  go_wp2_with fail
                  go_ret3
                  exact ⟨by rw [FIN.out]; rfl, O1.out⟩
                | ok x =>
                  obtain ⟨m, r2⟩ := x
                  rw [h4] at CH
                  obtain ⟨sc, hpi⟩ := PS.out m r2 h4
                  obtain ⟨hlen, _⟩ := half4_four h4
                  have hm := half_low h4
                  have FIN := hide (show unqE s.size R = .tuple #[.string (bT (encL (pairOf n m))), .int .i64 12, .int .i64 0] by
                    rw [show R = .ok (encL (pairOf n m), r2) by rw [KR2.out]; unfold escH; rw [h4]]
                    refine escE_ok (m := 12) ?_ rfl
                    rw [List.length_drop, list_size] at hlen
                    omega)
                  unfold halfE at CH
                  have hp32 : pairOf n m < 2147483648 := by
                    have := scalar_le sc
                    omega
                  have CP := hide (fun w1 => rput_run (pairOf n m) w1 hp32)
                  rw [put_val sc] at CP
                  have hms1 : 56320 ≤ (m : Int) := by omega
                  have hms2 : (m : Int) ≤ 57343 := by omega
                  have hns1 : 55296 ≤ (n : Int) := by omega
                  have hns2 : (n : Int) ≤ 56319 := by omega
                  obtain ⟨p, hp⟩ : ∃ p, Hid (pairOf n m = p) := ⟨_, hide rfl⟩
                  rw [hp.out] at CP FIN hp32 hpi
                  have hpe := hide (show 65536 + 1024 * ((n : Int) - 55296) + (m : Int) - 56320 = (p : Int) from hpi.symm)
                  clear KR2 PS h4 sc hpi hlen hm
                  go_wp2_with fail
                  rw [hu.out]
                  refine CH.out.mono ?_
                  rintro x w1 ⟨rfl, o1⟩
                  have O1 := hide (Old.trans HO.out o1)
                  clear o1
                  go_wp2_with fail
                  rw [hpe.out]
                  refine (CP.out _).mono ?_
                  rintro x w2 ⟨rfl, o2⟩
                  have O2 := hide (Old.trans O1.out o2)
                  clear o2
                  go_wp2_with fail
                  go_ret3
                  exact ⟨by rw [FIN.out]; rfl, O2.out⟩
              by_cases hlen : k < s.size
              · have hd := drop_at hlen
                obtain ⟨d, hdc⟩ : ∃ d, s[k]'hlen = d := ⟨_, rfl⟩
                rw [hdc] at hd
                have hlt : (k : Int) < (s.size : Int) := by omega
                have hlt2 : ¬ (s.size : Int) ≤ (k : Int) := by omega
                have KR2 := hide (show R = escK n k (d :: s.data.toList.drop (k + 1)) by rw [← hd]; exact KR.out)
                clear hd KR PS
                have h67 : k = 6 ∨ k = 7 := by omega
                clear e8 hk6 hk8 hks
                rcases h67 with rfl | rfl
                · have a1 : (6 : Int) < (s.size : Int) := by omega
                  have a2 : ¬ (s.size : Int) ≤ 6 := by omega
                  have a3 : ((⟨#[92, 117]⟩ : ByteArray)[0]'(by decide)) = 92 := rfl
                  clear hlt hlt2
                  by_cases hd92 : d = 92
                  · have NX := hide (show R = escK n 7 (s.data.toList.drop 7) by
                      rw [KR2.out, hd92, escK_6, escK_7]
                      unfold escK6
                      simp only [want1, if_true])
                    have hq : ((d.toNat : Int) != 92) = false := by rw [hd92]; rfl
                    clear hd92 KR2
                    go_wp2_with fail
                    go_region
                    all_goals
                      go_wp2_with fail
                      go_roundw
                      case rel => exact ⟨7, rfl, by omega, by omega, by omega, NX, hide (Old.drewN HO.out _)⟩
                      case measure => simp [intOf]
                  · have FIN := hide (show R = .error 41 by
                      rw [KR2.out, escK_6]
                      unfold escK6
                      simp only [want1, if_neg hd92])
                    have hq : ((d.toNat : Int) != 92) = true := by
                      have : d.toNat ≠ 92 := fun e => hd92 (UInt8.toNat_inj.1 e)
                      simp; omega
                    clear hd92 KR2
                    go_wp2_with fail
                    go_region
                    all_goals
                      go_wp2_with fail
                      go_ret3
                      exact ⟨by rw [FIN.out]; rfl, Old.drewN HO.out _⟩
                · have a1 : (7 : Int) < (s.size : Int) := by omega
                  have a2 : ¬ (s.size : Int) ≤ 7 := by omega
                  have a3 : ((⟨#[92, 117]⟩ : ByteArray)[1]'(by decide)) = 117 := rfl
                  clear hlt hlt2
                  by_cases hd92 : d = 117
                  · have NX := hide (show R = escK n 8 (s.data.toList.drop 8) by
                      rw [KR2.out, hd92, escK_7, escK_8]
                      unfold escK7
                      simp only [want1, if_true])
                    have hq : ((d.toNat : Int) != 117) = false := by rw [hd92]; rfl
                    clear hd92 KR2
                    go_wp2_with fail
                    go_region
                    all_goals
                      go_wp2_with fail
                      go_roundw
                      case rel => exact ⟨8, rfl, by omega, by omega, by omega, NX, hide (Old.drewN HO.out _)⟩
                      case measure => simp [intOf]
                  · have FIN := hide (show R = .error 41 by
                      rw [KR2.out, escK_7]
                      unfold escK7
                      simp only [want1, if_neg hd92])
                    have hq : ((d.toNat : Int) != 117) = true := by
                      have : d.toNat ≠ 117 := fun e => hd92 (UInt8.toNat_inj.1 e)
                      simp; omega
                    clear hd92 KR2
                    go_wp2_with fail
                    go_region
                    all_goals
                      go_wp2_with fail
                      go_ret3
                      exact ⟨by rw [FIN.out]; rfl, Old.drewN HO.out _⟩
              · have hlt : ¬ (k : Int) < (s.size : Int) := by omega
                have hlt2 : (s.size : Int) ≤ (k : Int) := by omega
                have FIN := hide (show R = .error 3 by
                  rw [KR.out, List.drop_eq_nil_of_le (by rw [list_size]; omega)]
                  have h67 : k = 6 ∨ k = 7 := by omega
                  rcases h67 with rfl | rfl <;> rfl)
                have hk8 : (k : Int) < 8 := by omega
                clear KR PS e8
                go_wp2_with fail
                go_ret3
                exact ⟨by rw [FIN.out]; rfl, HO.out⟩
      · have hq : ((c.toNat : Int) != 117) = true := by
          have : c.toNat ≠ 117 := fun e => c117 (UInt8.toNat_inj.1 e)
          simp; omega
        have FIN := hide (m1 c117)
        clear m1 m2 c117
        go_wp2_with fail
        go_ret3
        exact ⟨by rw [FIN.out]; rfl, HO.out⟩
end Go.Proofs.YtdlcibbbebhcoaaGreatDoor
