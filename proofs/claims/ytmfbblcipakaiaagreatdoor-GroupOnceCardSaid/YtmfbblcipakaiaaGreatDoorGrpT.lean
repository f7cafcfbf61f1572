/- The walk of Apply. -/
import Derived.Test.YtmfbblcipakaiaaGreatDoorGrpU
namespace Go.Proofs.YtmfbblcipakaiaaGreatDoor
open Go.RowKit Go.Maps

/-- what Apply leaves -/
def AppPost (w : World) (g bm K S m : Nat) (f : Gf) (l : List Ent) (B : Nat → Prop) (e : Ending) (w' : World) : Prop :=
  ∃ (h1 : Nat) (out : Value) (z : List Item), e = .returned (.tuple #[out, .int .i64 (appErr K S f l)]) ∧ w.heap.size ≤ h1 ∧ h1 ≤ w'.heap.size ∧ ItemsT 60 65 h1 w' out z ∧ Delta K S f (appF K S f l) z ∧ z.length ≤ l.length * 2 ∧
    GIs w' g bm K S (m + l.length) (appF K S f l) (fun b => B b ∨ (w.heap.size ≤ b ∧ b < h1)) ∧ Chg (fun b => b = bm) w w'
theorem AppPost.same {w w' : World} {g bm K S m : Nat} {f : Gf} {l : List Ent} {B : Nat → Prop} {n : Int} (hG : GIs w g bm K S m f B) (ho : Old w w') (he : appErr K S f l = n) (hf : appF K S f l = f) : AppPost w g bm K S m f l B (.returned (.tuple #[.slice none 0 0, .int .i64 n])) w' := by
  refine ⟨w.heap.size, _, [], by rw [he], Nat.le_refl _, ho.size, ⟨[], rfl, SlT.nil_ _, fun i h => absurd h (by simp)⟩, by rw [hf]; exact Delta.none_ K S f, by simp, ?_, Chg.of_old ho⟩
  rw [hf]
  have h := (hG.old ho).mono (n' := m + l.length) (by omega)
  refine ⟨h.c0, h.c1, h.c2, h.c3, ?_, h.fit, h.len, ?_, ?_⟩
  · obtain ⟨M, hM⟩ := h.map
    exact ⟨M, hM.mono (Nat.le_refl _) (fun b _ hb => .inl hb)⟩
  · rintro b (hb | hb)
    · exact h.low b hb
    · omega
  · rintro (hb | hb)
    · exact h.nob hb
    · omega
theorem over_of {K S : Nat} {f : Gf} {l : List Ent} {k : List Cell} {i : Nat} (hm : allMay K S l = true) (hk : ∃ e ∈ l, e.key = k) (hi : i ≤ S) (hn : ¬ fit (gAdd f l k i)) : appErr K S f l = 50 ∧ appF K S f l = f := by
  refine appErr_over hm ?_
  cases h : okB S f l
  · rfl
  · obtain ⟨e, he, rfl⟩ := hk
    exact absurd (okB_iff.1 h e he i hi) hn
theorem ok_of {K S : Nat} {f : Gf} {l : List Ent} {ks : List (List Cell)} (hm : allMay K S l = true) (hk : KeysOf l ks) (h : ∀ k ∈ ks, ∀ i, i ≤ S → fit (gAdd f l k i)) : appErr K S f l = 0 ∧ appF K S f l = gAdd f l :=
  appErr_ok hm (okB_iff.2 fun e he i hi => h e.key ((hk _).2 ⟨e, he, rfl⟩) i hi)

theorem CMap.lower {w : World} {bc lo lo' n : Nat} {F : List Cell → List Int} {ks : List (List Cell)} {p nb : List Cell → Nat} {M : ByteArray → Option Value} (h : CMap w bc lo n F ks p nb M) (hl : lo' ≤ lo) : CMap w bc lo' n F ks p nb M :=
  ⟨h.map, h.val, h.names, fun k hk => by
    obtain ⟨⟨kv, a1, a2⟩, a3, a4, a5⟩ := h.at_ k hk
    exact ⟨⟨kv, a1, a2.mono hl⟩, a3, Nat.le_trans hl a4, Nat.le_trans hl a5⟩, h.apart, h.nodup⟩
/-- at the first loop -/
theorem ApSt.start {w w1 w3 w4 : World} {bc n S cnt : Nat} {f : Gf} {l : List Ent} {ks : List (List Cell)} {p nb : List Cell → Nat} {M : ByteArray → Option Value} (h1 : Old w w1) (h3 : Old (w1.alloc (.map #[] 0)) w3) (h4 : Old w3 w4) (hs4 : w4.heap.size = w3.heap.size + 1)
    (hbc : (w1.alloc (.map #[] 0)).heap.size ≤ bc) (hcm : CMap w3 bc (w1.alloc (.map #[] 0)).heap.size n (fun x => numsOf S (gAdd f l) x) ks p nb M) (hrg : MapRng Tryz.prog 9 w4 bc w3.heap.size n M (fun s => (M s).isSome) cnt) :
    ApSt w bc w1.heap.size w3.heap.size w4.heap.size n S f l ks p nb M [] (.slice none 0 0) w4 := by
  have hsz : (w1.alloc (.map #[] 0)).heap.size = w1.heap.size + 1 := by simp
  have a1 := h1.size
  have a3 := h3.size
  have a4 := h4.size
  have hb3 := hcm.map.lt
  refine ⟨(h1.alloc _).trans (h3.trans h4), ⟨_, by rw [hrg.left_eq]; exact hrg, fun k => ?_⟩, (hcm.old h4).lower (by omega), ⟨_, ((GNext.made w1 w.heap.size S (gAdd f l)).old h3).old h4⟩, ItemsOwn.nil_ _, List.nodup_nil, fun _ h => (by cases h), fun _ h => (by cases h), by omega, by omega, by omega, by omega⟩
  show (M (nameOf k)).isSome = _
  rw [hcm.val]
  by_cases hk : k ∈ ks <;> simp [hk]

theorem nodup_len {α : Type} [DecidableEq α] : ∀ {a b : List α}, a.Nodup → (∀ x ∈ a, x ∈ b) → a.length ≤ b.length
  | [], _, _, _ => by simp
  | x :: a, b, hn, h => by
    obtain ⟨h1, h2⟩ := List.nodup_cons.1 hn
    have hx : x ∈ b := h x (by simp)
    have := nodup_len (a := a) (b := b.erase x) h2 (fun y hy => by
      have hne : y ≠ x := by rintro rfl; exact h1 hy
      exact (List.mem_erase_of_ne hne).2 (h y (by simp [hy])))
    have e := List.length_erase_of_mem hx
    have : 0 < b.length := List.length_pos_of_mem hx
    simp only [List.length_cons]
    omega
theorem KeysOf.len {l : List Ent} {ks : List (List Cell)} (h : KeysOf l ks) (hn : ks.Nodup) : ks.length ≤ l.length := by
  have := nodup_len (b := l.map (·.key)) hn (fun x hx => by
    obtain ⟨e, he, rfl⟩ := (h x).1 hx
    exact List.mem_map.2 ⟨e, he, rfl⟩)
  simpa using this

theorem part_bd {e : Ent} (h : EntFine e) (i : Nat) : -85070591730234615865843651857942052864 ≤ part e i ∧ part e i ≤ 85070591730234615865843651857942052864 := by
  cases i with
  | zero => have := h.w; unfold fit at this; simp only [part]; omega
  | succ i =>
    simp only [part]
    split
    · rename_i c hc
      split
      · omega
      · have := mul_bd e.w c.n h.w (h.vals c (List.mem_of_getElem? hc))
        omega
    · omega
theorem tot_bd {l : List Ent} (h : ∀ e ∈ l, EntFine e) (k : List Cell) (i : Nat) : -(l.length * 85070591730234615865843651857942052864 : Int) ≤ tot l k i ∧ tot l k i ≤ l.length * 85070591730234615865843651857942052864 := by
  induction l with
  | nil => simp [tot]
  | cons e l ih =>
    obtain ⟨h1, h2⟩ := ih (fun x hx => h x (by simp [hx]))
    obtain ⟨h3, h4⟩ := part_bd (h e (by simp)) i
    simp only [tot, List.length_cons]
    split <;> omega
theorem add_bd {l : List Ent} {f : Gf} {S : Nat} (h : ∀ e ∈ l, EntFine e) (hf : GFit S f) (hn : l.length ≤ 10000) (k : List Cell) {i : Nat} (hi : i ≤ S) :
    -3138550867693340381917894711603833208051177722232017256448 ≤ gAdd f l k i ∧ gAdd f l k i < 3138550867693340381917894711603833208051177722232017256448 := by
  have h1 := tot_bd h k i
  have h2 := hf k i hi
  unfold fit at h2
  unfold gAdd
  omega

set_option maxRecDepth 100000 in
set_option maxHeartbeats 8000000 in
theorem apply_run (g bm K S m : Nat) (f : Gf) (B : Nat → Prop) (v : Value) (l : List Ent) (w : World) (hG : GIs w g bm K S m f B) (hKK : K ≤ 64) (hS : S ≤ 64) (hm : m ≤ 20000) (hl : EntsIs w v l) (hn : l.length ≤ 5000) (hfine : ∀ e ∈ l, EntFine e) (hp : PowTab w) :
    Calls Tryz.prog 12 #[.pointer (some ⟨g, 0, none⟩), v] w (AppPost w g bm K S m f l B) := by
  have HG := hide hG
  have HL := hide hl
  have HFI := hide hfine
  have HP := hide hp
  obtain ⟨A, ca, -, -, rfl, -⟩ := hl.open_
  have ob := fun o => (Old.refl w).alloc o
  have CN := hide (fun o => none_made g (w.alloc o) ((ob o).cell hG.c0))
  have CM := hide (fun o (q : (w.alloc o).cell? ⟨w.heap.size, 0, none⟩ = some (.pointer (some ⟨g, 0, none⟩))) => contains_may w.heap.size g K S _ l (w.alloc o) q (GHead.old ⟨hG.c0, hG.c1, hG.c2⟩ (ob o)) (hl.old (ob o)) (by omega) (by omega))
  have hmm := @run_makeMap Tryz.prog
  clear hG hl hfine hp
  go_enter Tryz.func12, Tryz.ntmps12
  go_wp2_with fail
  refine (CN.out _).mono ?_
  rintro e w1 ⟨rfl, rfl⟩
  go_wp2_with fail
  refine (CM.out _ (by go_simp)).mono ?_
  rintro e w1 ⟨rfl, h1⟩
  cases hmay : allMay K S l
  · have HE := hide (appErr_may (S := S) (f := f) hmay)
    have HO := hide ((ob _).trans h1)
    clear h1 hmay
    go_wp2_with fail
    go_ret2
    exact AppPost.same HG.out HO.out HE.out.1 HE.out.2
  · have HMAY := hide hmay
    have HO := hide ((ob _).trans h1)
    have q1 : w1.cell? ⟨w.heap.size, 0, none⟩ = some (.pointer (some ⟨g, 0, none⟩)) := h1.cell (by go_simp)
    have Q1 := hide (h1.heap (heap_alloc_at (w := w) (.cells #[.pointer (some ⟨g, 0, none⟩)] 24)))
    have hq : w.heap.size < w1.heap.size := Nat.lt_of_lt_of_le (by simp) h1.size
    clear h1 hmay CN CM
    go_wp2_with fail
    obtain ⟨MG, hMG⟩ := HG.out.map
    have HMG := hide hMG
    have hsz2 : (w1.alloc (.map #[] 0)).heap.size = w1.heap.size + 1 := by simp
    have O2 := hide (HO.out.alloc (.map #[] 0))
    have HALL := hide (fun e he => entMay_iff.1 (List.all_eq_true.1 HMAY.out e he))
    refine (changes_run g bm K S m f MG B _ l _ (O2.out.cell HG.out.c2) (O2.out.cell HG.out.c3) (HMG.out.old O2.out) hS HG.out.fit (HL.out.old O2.out) (by omega) HFI.out (fun e he => (HALL.out e he).2.1) (HP.out.old O2.out)).mono ?_
    rintro e w3 ⟨bc, ks, p, nb, M, rfl, hbc, hcm, hks, ho3⟩
    obtain ⟨w4, hrun, ⟨cnt, hrg⟩, ho4, hs4⟩ := hcm.map.range undStr Tryz.underlying74
    have HST := hide (ApSt.start HO.out ho3 ho4 hs4 hbc hcm hrg)
    have HQ4 := hide ((ho3.trans ho4).heap ((Old.alloc (Old.refl w1) (.map #[] 0)).heap Q1.out))
    have HKS := hide hks
    have hbc4 : w.heap.size < bc := by have := HO.out.size; omega
    clear hcm hrg hks hMG q1 Q1 ho3 ho4
    go_wp2_with fail
    obtain ⟨bn, hbn⟩ : ∃ bn, bn = w1.heap.size := ⟨_, rfl⟩
    obtain ⟨r, hr⟩ : ∃ r, r = w3.heap.size := ⟨_, rfl⟩
    obtain ⟨base, hbase⟩ : ∃ base, base = w4.heap.size := ⟨_, rfl⟩
    have hqs : w.heap.size < bn ∧ w.heap.size < r ∧ w.heap.size < base ∧ w.heap.size < bc := by have := hbc; have := HST.out.lowr; have := HST.out.lown; have := HST.out.lowc; omega
    rw [← hbn, ← hr, ← hbase] at HST
    rw [← hbn, ← hr]
    have hw4 : base ≤ w4.heap.size := by omega
    clear hrun hs4 hbn hr hbase
    go_loopw [7] (fun o wr => ∃ done : List (List Cell), Hid (ApSt w bc bn r base l.length S f l ks p nb M done o wr) ∧ base ≤ wr.heap.size ∧ Hid (wr.heap[w.heap.size]? = some (.cells #[.pointer (some ⟨g, 0, none⟩)] 24 (0, 0)))) (fun _ wr => wr.rangeLeft bc r)
    case atStart => exact ⟨[], HST, hw4, HQ4⟩
    case round =>
      obtain ⟨done, HS, hbs, HQ⟩ := hrel
      obtain ⟨left, hrg, hleft⟩ := HS.out.rng
      obtain ⟨MN, hN⟩ := HS.out.nx
      have HRG := hide hrg
      have HLF := hide hleft
      have HN := hide hN
      clear hrg hleft hN
      have hinv : Hid (∀ (s : ByteArray) (v : Value), M s = some v → ∃ c : Nat, v = Value.pointer (some ⟨c, 0, none⟩)) := hide (fun s v hv => by
        obtain ⟨k, hk, rfl⟩ := HS.out.ch.names s v hv
        have h := HS.out.ch.val k
        rw [if_pos hk, hv] at h
        exact ⟨p k, by injection h⟩)
      go_wp2_with (at_next; refine wpList_plain rfl (fun Kc hKc => ?_); refine step_map_next _ _ rfl _ undStr (fun c : Nat => Value.pointer (some ⟨c, 0, none⟩)) bc r l.length M left _ hinv.out rfl HRG.out ?dn ?mr)
      case mr =>
        intro s c w5 cnt' hsl hlk hv hrg' hlt hgr hsz5 hen
        refine hKc _ _ ?_
        clear hKc
        obtain ⟨k, hk, hsk⟩ := HS.out.ch.names s _ hv
        have hkd : k ∉ done := by
          have h := HLF.out k
          rw [← hsk, hlk] at h
          intro hd
          rw [decide_eq_true hd] at h
          simp at h
        have hpk : p k = c := by
          have h := HS.out.ch.val k
          rw [if_pos hk, ← hsk, hv] at h
          injection h with h; injection h with h; injection h with h; injection h with h
          exact h.symm
        have MID := hide (HS.out.mid HN.out hrg' hgr hbs)
        have HKL := hide (show k.length = K by
          obtain ⟨e, he, rfl⟩ := (HKS.out k).1 hk
          exact (HALL.out e he).1)
        have HSK := hide hsk
        obtain ⟨N0, hN0⟩ : ∃ N0, Hid (k.length = N0) := ⟨_, hide rfl⟩
        have hat := MID.out.ch.at_ k hk
        rw [hpk] at hat
        have HNU := hide hat.nums
        obtain ⟨kv, hc0, hkv⟩ := hat.head
        have hlS : (numsOf S (gAdd f l) k).length = S + 1 := numsOf_length _ _ _
        obtain ⟨Nb, hNb⟩ : ∃ Nb, Hid (nb k = Nb) := ⟨_, hide rfl⟩
        rw [hNb.out] at HNU hc0
        have k0 : w5.cell? ⟨c, 0, none⟩ = some kv := (cell_of_heap hc0).trans rfl
        have k1 : w5.cell? ⟨c, 1, none⟩ = some (.slice (some ⟨Nb, 0, none⟩) (S + 1) (S + 1)) := (cell_of_heap hc0).trans (by rw [hlS]; rfl)
        have HQ5 := hide ((hgr.block w.heap.size (block_lt HQ.out) (fun e => by injection e with e; omega)).trans HQ.out)
        have HKV := hide hkv
        obtain ⟨Ak, ck, rfl, -⟩ := id hkv
        have hbs5 : base ≤ w5.heap.size := by omega
        have hgr' := hide hgr
        have hc5 : c < w5.heap.size := block_lt hc0
        have hN5 : Nb < w5.heap.size := block_lt HNU.out
        have hw5 : w.heap.size < w5.heap.size := by omega
        clear hat hc0 hkv hlk hv hrg' hgr hsz5 hpk hsk
        go_wp2_with fail
        go_loopw [44] (fun i wz => ∃ (j : Nat) (u : Value), i = .int .i64 j ∧ j ≤ S + 1 ∧ Hid (wz.heap[w5.heap.size]? = some (.cells #[.slice Ak k.length ck, u] 81 (0, 0))) ∧ Hid (wz.ownsRow (w5.heap.size + 1) 2 1 u j (numVals ((numsOf S (gAdd f l) k).take j))) ∧ Hid (Old w5 wz) ∧ Hid (∀ i, i < j → i ≤ S → fit (gAdd f l k i))) (fun i _ => S + 1 - (intOf i).toNat)
        case atStart => exact ⟨0, _, rfl, by omega, hide (heap_alloc_at (w := w5) _), hide (World.ownsRow_nil _ _ _ _), hide ((Old.refl w5).alloc _), hide (fun _ h => absurd h (by omega))⟩
        case round =>
          obtain ⟨j, u, rfl, hj, HBX, HOW, HOZ, HFT⟩ := hrel
          by_cases hjS : j < S + 1
          · have HNZ := hide (HOZ.out.heap HNU.out)
            have z0 := wide_cells HNZ.out (i := j) (by rw [hlS]; omega)
            rw [nums_at] at z0
            have HTK := hide (take_snoc (l := numsOf S (gAdd f l) k) (k := j) (by rw [hlS]; omega))
            have HGT := hide (nums_at (S := S) (i := j) (gAdd f l) k (by rw [hlS]; omega))
            have HBD := hide (add_bd HFI.out HG.out.fit (by omega) k (i := j) (by omega))
            obtain ⟨X, hX⟩ : ∃ X, Hid (gAdd f l k j = X) := ⟨_, hide rfl⟩
            rw [hX.out] at z0 HBD
            obtain ⟨z0, z1, z2⟩ := z0
            have hNz : Nb < wr.heap.size := Nat.lt_of_lt_of_le hN5 HOZ.out.size
            have hbz : w5.heap.size < wr.heap.size := block_lt HBX.out
            by_cases hfit : fit X
            · have CI := hide (fun o => wide_Int X (wr.alloc o) HBD.out)
              obtain ⟨i1, i2⟩ := int_fit hfit
              rw [i1, i2] at CI
              have HFX := hide hfit
              obtain ⟨Au, cu, rfl, -⟩ := id (SlT.of_own HOW.out)
              clear hfit i1 i2
              go_wp2_with fail
              refine (CI.out _).mono ?_
              rintro e w6 ⟨rfl, hg6⟩
              have O6 := hide (((Old.refl wr).alloc _).trans hg6.old)
              have b1 : w6.cell? ⟨w5.heap.size, 1, none⟩ = some (.slice Au j cu) := O6.out.cell ((cell_of_heap HBX.out).trans rfl)
              have HB6 := hide (O6.out.heap HBX.out)
              have HW6 := hide (own_old HOW.out O6.out)
              have h6 : w5.heap.size + 1 ≤ w6.heap.size := by have := O6.out.size; omega
              have hjl : j + 1 ≤ 4194304 := by omega
              clear hg6 z0 z1 z2
              go_wp2_with (at_builtin; refine wpList_plain rfl (fun Kc hKc => ?_); refine step_push_num _ _ _ rfl (w5.heap.size + 1) _ j _ rfl (own_old HW6.out ((Old.refl w6).alloc _)) _ X rfl (one_num (by go_simp) (Nat.le_refl _) (by unfold maxLen; omega)) hjl (by simp; omega) ?_; intro v' w7 own7 kp7; refine hKc _ _ ?_; clear hKc; have HB7 := hide ((kp7.low.block w5.heap.size (by omega)).trans ((Old.alloc (Old.refl w6) _).heap HB6.out)); have b7 : w7.cell? ⟨w5.heap.size, 1, none⟩ = some (.slice Au j cu) := (cell_of_heap HB7.out).trans rfl; have f7 : w7.frozen? ⟨w5.heap.size, 1, none⟩ = false := free_of_heap HB7.out; obtain ⟨A7, c7, rfl, -⟩ := id (SlT.of_own own7))
              have O7 := hide (kp7.old ((HOZ.out.trans O6.out).alloc _) (by omega))
              go_roundw
              case rel =>
                refine ⟨j + 1, .slice A7 (j + 1) c7, by go_num, by omega, hide (heap_set HB7.out _), hide (own_set (by rw [HTK.out, HGT.out, hX.out]; exact own7) (Nat.lt_succ_self _) _), hide (Old.setCell O7.out (Nat.le_refl _) _), hide (fun i hi hiS => ?_)⟩
                · rcases Nat.lt_or_ge i j with h | h
                  · exact HFT.out i h hiS
                  · have : i = j := by omega
                    subst this
                    rw [hX.out]
                    exact HFX.out
              case measure => simp [intOf]; omega
            · have CI := hide (fun o => wide_Int X (wr.alloc o) HBD.out)
              obtain ⟨i1, i2⟩ := int_unfit hfit
              rw [i1, i2] at CI
              have HFX := hide hfit
              clear hfit i1 i2
              go_wp2_with fail
              refine (CI.out _).mono ?_
              rintro e w6 ⟨rfl, hg6⟩
              have O6 := hide (MID.out.old.trans (HOZ.out.trans (((Old.refl wr).alloc _).trans hg6.old)))
              have HOV := hide (over_of (K := K) (S := S) (f := f) (l := l) (k := k) (i := j) HMAY.out ((HKS.out k).1 hk) (by omega) (by rw [hX.out]; exact HFX.out))
              clear hg6 z0 z1 z2
              go_wp2_with fail
              go_ret2
              exact AppPost.same HG.out O6.out HOV.out.1 HOV.out.2
          · have hjS2 : j = S + 1 := by omega
            subst hjS2
            have hall : (numsOf S (gAdd f l) k).take (S + 1) = numsOf S (gAdd f l) k := List.take_of_length_le (by rw [hlS]; exact Nat.le_refl _)
            have hOW := HOW.out
            rw [hall] at hOW
            obtain ⟨Au, cu, rfl, -⟩ := id (SlT.of_own hOW)
            have MR := hide (MID.out.later HOZ.out)
            have HE := hide (show GEntT wr w.heap.size k (numsOf S (gAdd f l) k) (.agg #[.slice Ak k.length ck, .slice Au (S + 1) cu]) from ⟨_, _, rfl, HKV.out.old HOZ.out, by
              rw [hlS]; exact (SlT.of_own hOW).mono (by omega)⟩)
            have hdl : done.length ≤ l.length := Nat.le_trans (nodup_len HS.out.nodup HS.out.sub) (HKS.out.len HS.out.ch.nodup)
            obtain ⟨w6, hput, hm6, hg6⟩ := MR.out.nx.map.put undStr Tryz.underlying54 (by unfold maxLen; omega) (s := nameOf k) (by rw [← HSK.out]; exact hsl) (.agg #[.slice Ak k.length ck, .slice Au (S + 1) cu])
            rw [← HSK.out] at hput
            obtain ⟨e1, e2, e3, e4, e5⟩ := MR.out.put hm6 hg6 HE.out HS.out.neq (by have := HS.out.lown; omega)
            have hbn : bn < base := HS.out.lown.2
            have c6 := Chg.of_grown hg6
            have HBX6 := hide ((c6.block w5.heap.size (block_lt HBX.out) (show ¬ w5.heap.size = bn by omega)).trans HBX.out)
            have HQ6 := hide ((c6.block w.heap.size (block_lt (HOZ.out.heap HQ5.out)) (show ¬ w.heap.size = bn by omega)).trans (HOZ.out.heap HQ5.out))
            have HE6 := hide (HE.out.turn c6 (by
              rintro b cs T f _ hh rfl
              exact map_ne hh MR.out.nx.map rfl))
            have hb6 : base ≤ w6.heap.size := Nat.le_trans MR.out.base hg6.size
            have E1 := hide e1
            have E2 := hide e2
            have E3 := hide e3
            have E4 := hide e4
            have E5 := hide e5
            have b0 : wr.cell? ⟨w5.heap.size, 0, none⟩ = some (.slice Ak k.length ck) := (cell_of_heap HBX.out).trans rfl
            have b1 : wr.cell? ⟨w5.heap.size, 1, none⟩ = some (.slice Au (S + 1) cu) := (cell_of_heap HBX.out).trans rfl
            have KO := hide (fun w' (kp : Kept 60 base w6 w') => (show Old w w' from Below.trans E1.out (kp.low.mono (by omega))))
            have y2 : ∀ w', Kept 60 base w6 w' → w'.cell? ⟨w.heap.size, 0, none⟩ = some (.pointer (some ⟨g, 0, none⟩)) := fun w' kp => (cell_of_heap ((kp.low.block _ (by omega)).trans HQ6.out)).trans rfl
            have y3 : ∀ w', Kept 60 base w6 w' → w'.cell? ⟨g, 3, none⟩ = some (.map (some bm)) := fun w' kp => (KO.out w' kp).cell HG.out.c3
            have x0 : ∀ w', Kept 60 base w6 w' → w'.cell? ⟨w5.heap.size, 0, none⟩ = some (.slice Ak k.length ck) := fun w' kp => (cell_of_heap (kp.other _ _ _ _ HBX6.out (by decide))).trans rfl
            have x1 : ∀ w', Kept 60 base w6 w' → w'.cell? ⟨w5.heap.size, 1, none⟩ = some (.slice Au (S + 1) cu) := fun w' kp => (cell_of_heap (kp.other _ _ _ _ HBX6.out (by decide))).trans rfl
            obtain ⟨gv, hgv⟩ : ∃ gv, (MG (nameOf k)).getD (.agg #[.slice none 0 0, .slice none 0 0]) = gv := ⟨_, rfl⟩
            have OS := hide (HMG.out.oldSt k)
            rw [hgv] at OS
            have hlk : ∀ w', Kept 60 base w6 w' → (Instr.lookup 54 (.map (some bm)) (.string s) false).run Tryz.prog w' = .ok gv w' := fun w' kp => by
              have := (HMG.out.map.old (KO.out w' kp)).look undStr Tryz.underlying54 (zero_state w') (s := nameOf k) (by rw [← HSK.out]; exact hsl)
              rw [hgv, ← HSK.out] at this
              exact this
            obtain ⟨A0, n0, c0, A9, n9, c9, rfl⟩ := OS.out.form
            have hk64 : k.length ≤ 64 := by rw [HKL.out]; exact hKK
            have CS1 := hide (fun w' (kp : Kept 60 base w6 w') => OS.out.call (KO.out w' kp) hk64 hS)
            have CS2 := hide (fun w' (kp : Kept 60 base w6 w') => HE6.out.call kp hk64 hS)
            have hl1 : (bothAll S f (gAdd f l) done).length + (seenIt S f k (-1)).length ≤ 4194304 := by have := bothAll_len S f (gAdd f l) done; have := seenIt_len S f k (-1); omega
            have hl2 : (bothAll S f (gAdd f l) done ++ seenIt S f k (-1)).length + (seenIt S (gAdd f l) k 1).length ≤ 4194304 := by have := bothAll_len S f (gAdd f l) done; have := seenIt_len S f k (-1); have := seenIt_len S (gAdd f l) k 1; simp only [List.length_append]; omega
            clear e1 e2 e3 e4 e5 c6 hm6 hg6 hOW hall hgv
            go_wp2_with fail
            go_region_held3 (fun w' => Kept 60 base w6 w')
              (first | (with_reducible exact Kept.trans (by assumption) (by assumption)) | (with_reducible exact Kept.then (by assumption) (by assumption) (Nat.le_trans hb6 (Below.size (Kept.low (by assumption))))) | (exact Kept.then (Kept.refl _ _ _) (Old.drew (Old.refl _)) hb6))
              (first
                | (go_at_call 37; (with_reducible refine (CS1.out _ (by assumption)).mono ?_); rintro e w7 ⟨A7, c7, rfl, hi7, ho7⟩)
                | (go_at_call 37; (with_reducible refine (CS2.out _ (by assumption)).mono ?_); rintro e w9 ⟨A9', c9', rfl, hi9, ho9⟩)
                | (refine step_push_seen _ _ _ rfl base u7 (bothAll S f (gAdd f l) done) rfl (E5.out.old (Old.trans (Old.drew (Old.refl _)) ho7)) _ _ rfl (hi7.mono hb6) hl1 (Nat.le_trans hb6 ho7.size) ?_; intro v8 w8 own8 kp8 gr8)
                | (refine step_push_seen _ _ _ rfl base v8 (bothAll S f (gAdd f l) done ++ seenIt S f k (-1)) rfl (own8.old ho9) _ _ rfl (hi9.mono (Nat.le_trans hb6 (Nat.le_trans ho7.size kp8.low.size))) hl2 (Nat.le_trans hb6 (Nat.le_trans ho7.size (Nat.le_trans kp8.low.size ho9.size))) ?_; intro v10 w10 own10 kp10 gr10)
                | (fail "none fits"))
            have KP := hide (show Kept 60 base w6 w10 by assumption)
            obtain ⟨NX, hcnt⟩ := HS.out.next E1.out E2.out E3.out E4.out KP.out (by rw [bothAll_snoc]; exact own10) hk hkd (fun x => by
              have h := HLF.out x
              by_cases hx : x = k
              · subst hx
                rw [HSK.out]
                simp
              · have hne : ¬ nameOf x = s := by
                  rw [HSK.out]
                  exact fun e => hx (nameOf_inj e)
                rw [h]
                simp [hne, hx]) (fun i hi => HFT.out i (by omega) hi)
            have HNX := hide NX
            have HQ10 := hide ((KP.out.low.block w.heap.size (by omega)).trans HQ6.out)
            have hb10 : base ≤ w10.heap.size := Nat.le_trans hb6 KP.out.low.size
            have HCN := hide hcnt
            clear NX hcnt
            go_wp2_with fail
            go_roundw
            case rel => exact ⟨done ++ [k], HNX, hb10, HQ10⟩
            case measure =>
              rw [HCN.out]
              exact hlt
      case dn =>
        intro hend
        refine hKc _ _ ?_
        clear hKc
        have hdone : ∀ k ∈ ks, k ∈ done := fun k hk => by
          have h := HLF.out k
          rw [hend (nameOf k)] at h
          exact Decidable.byContradiction fun hd => by simp [hk, hd] at h
        have HKD := hide (show KeysOf l done from fun x => ⟨fun hx => (HKS.out x).1 (HS.out.sub x hx), fun hx => hdone x ((HKS.out x).2 hx)⟩)
        have HOK := hide (ok_of (K := K) HMAY.out HKD.out HS.out.fits)
        have hlen : ∀ k ∈ done, k.length = K := fun k hk => by
          obtain ⟨e, he, rfl⟩ := (HKD.out k).1 hk
          exact (HALL.out e he).1
        have hrest : ∀ k, k ∉ done → ∀ i, gAdd f l k i = f k i := fun k hk i => by
          unfold gAdd
          rw [tot_none (fun e he hh => hk ((HKD.out k).2 ⟨e, he, hh⟩))]
          omega
        obtain ⟨hz1, hz2⟩ := both_delta (K := K) (S := S) (f := f) (g := gAdd f l) HS.out.nodup hlen hrest
        have hdl : done.length ≤ l.length := Nat.le_trans (nodup_len HS.out.nodup HS.out.sub) (HKS.out.len HS.out.ch.nodup)
        have hbl := bothAll_len S f (gAdd f l) done
        have hzl := normOut_len (bothAll S f (gAdd f l) done)
        have hfi := bothAll_fine (S := S) (f := f) (g := gAdd f l) hlen
        have CNO := zset_Norm u7 (bothAll S f (gAdd f l) done) wr HS.out.its.t.is (by omega) (fun i hi => by have := (hfi _ (List.getElem_mem hi)).1; omega) (fun x hx => (hfi x hx).2)
        obtain ⟨z, hz⟩ : ∃ z, Hid (normOut (bothAll S f (gAdd f l) done) = z) := ⟨_, hide rfl⟩
        rw [hz1, hz.out] at CNO
        rw [hz.out] at hz2 hzl
        have CN := hide CNO
        have HDZ := hide hz2
        have HZL := hide (show z.length ≤ l.length * 2 by omega)
        clear hz1 hz2 hfi CNO hdone hrest hzl hbl
        go_wp2_with fail
        refine CN.out.mono ?_
        rintro e w6 ⟨vo, rfl, hit, ho6⟩
        obtain ⟨w8, hrun, ⟨cnt2, hrg2⟩, ho8, hs8⟩ := (HN.out.old ho6).map.range undStr Tryz.underlying54
        have HA3 := hide (Ap3.start HS.out.old HN.out HMG.out hit ho6 hrg2 ho8 HS.out.lown.1 HG.out.lt HG.out.nob HG.out.low)
        have HQ8 := hide ((ho6.trans ho8).heap HQ.out)
        obtain ⟨vs0, -, ⟨Ao, co, rfl, -⟩, -⟩ := id hit
        clear hit ho6 ho8 hrg2 hs8 CN
        go_wp2_with fail
        clear hrun
        obtain ⟨r2, hr2⟩ : ∃ r2, r2 = w6.heap.size := ⟨_, rfl⟩
        obtain ⟨h1, hh1⟩ : ∃ h1, h1 = wr.heap.size := ⟨_, rfl⟩
        rw [← hr2, ← hh1] at HA3
        rw [← hr2]
        clear hr2 hh1
        go_loopw [] (fun wr => ∃ don : List (List Cell), Hid (Ap3 w bm bn r2 K S m done.length h1 f l B done MN (.slice Ao z.length co) z don wr) ∧ Hid (wr.heap[w.heap.size]? = some (.cells #[.pointer (some ⟨g, 0, none⟩)] 24 (0, 0)))) (fun wr => wr.rangeLeft bn r2)
        case atStart => exact ⟨[], HA3, HQ8⟩
        case round =>
          obtain ⟨don, H3, HQ3⟩ := hrel
          obtain ⟨left3, hrg, hleft⟩ := H3.out.rng
          have HRG3 := hide hrg
          have HLF3 := hide hleft
          have hinv3 : Hid (∀ (s : ByteArray) (v : Value), MN s = some v → ∃ c, v = mkSt c) := hide (fun s v hv => by
            obtain ⟨k, hk, rfl⟩ := H3.out.nx.names s v hv
            obtain ⟨u, hu, hE⟩ := H3.out.nx.at_ k hk
            rw [hv] at hu
            injection hu with hu
            subst hu
            exact hE.mk)
          clear hrg hleft
          go_wp2_with (at_next; refine wpList_plain rfl (fun Kc hKc => ?_); refine step_map_next _ _ rfl _ undStr mkSt bn r2 done.length MN left3 _ hinv3.out rfl HRG3.out ?dn3 ?mr3)
          case mr3 =>
            intro s A1 n1 c1 A2 n2 c2 w5 cnt' hsl hlk hv hrg' hlt hgr hsz5 hen
            refine hKc _ _ ?_
            clear hKc
            obtain ⟨k, hk, hsk⟩ := H3.out.nx.names s _ hv
            have hkd : k ∉ don := by
              have h := HLF3.out k
              rw [← hsk, hlk] at h
              intro hd
              rw [decide_eq_true hd] at h
              simp at h
            have HSK := hide hsk
            obtain ⟨K5, M5, hM5⟩ := H3.out.begin hrg' hgr
            have K5' := hide K5
            have HM5 := hide hM5
            have hEA : Hid (GEnt w5 (fun b => w.heap.size ≤ b ∧ b < h1) k (numsOf S (gAdd f l) k) (mkSt ((A1, n1, c1), (A2, n2, c2)))) := hide (by
              obtain ⟨u, hu, hE⟩ := K5.early k hk
              rw [← hsk, hv] at hu
              injection hu with hu
              subst hu
              exact hE)
            have hKl : k.length = K := hlen k hk
            have HQ5 := hide ((hgr.block w.heap.size (block_lt HQ3.out) (fun e => by injection e with e; have := H3.out.lows; omega)).trans HQ3.out)
            have hls := H3.out.lows
            have O5 := hide (show Chg (fun b => b = bm) w w5 from K5.chg)
            have hgne : Hid (g ≠ bm) := hide HG.out.ne
            have hw5 : w.heap.size < w5.heap.size := block_lt HQ5.out
            have hg5 : g < w5.heap.size := by have := HG.out.gLt; omega
            clear K5 hM5 hlk hv hrg' hgr hsk hsz5
            go_wp2_with fail
            obtain ⟨W1, hW1⟩ : ∃ W1, Hid (w5.alloc (.cells #[.slice A1 n1 c1, .slice A2 n2 c2] 81) = W1) := ⟨_, hide rfl⟩
            have oW : Old w5 W1 := by rw [← hW1.out]; exact (Old.refl w5).alloc _
            have HBX := hide (show W1.heap[w5.heap.size]? = some (.cells #[.slice A1 n1 c1, .slice A2 n2 c2] 81 (0, 0)) by rw [← hW1.out]; exact heap_alloc_at _)
            have y2 : ∀ q : Later W1, q.world.cell? ⟨w.heap.size, 0, none⟩ = some (.pointer (some ⟨g, 0, none⟩)) := fun q => q.old.cell (oW.cell ((cell_of_heap HQ5.out).trans rfl))
            have y3 : ∀ q : Later W1, q.world.cell? ⟨g, 3, none⟩ = some (.map (some bm)) := fun q => q.old.cell (oW.cell ((World.cell?_of_block (a := ⟨g, 3, none⟩) (O5.out.block g HG.out.gLt hgne.out)).trans HG.out.c3))
            have x0 : ∀ q : Later W1, q.world.cell? ⟨w5.heap.size, 0, none⟩ = some (.slice A1 n1 c1) := fun q => q.old.cell ((cell_of_heap HBX.out).trans rfl)
            have x1 : ∀ q : Later W1, q.world.cell? ⟨w5.heap.size, 1, none⟩ = some (.slice A2 n2 c2) := fun q => q.old.cell ((cell_of_heap HBX.out).trans rfl)
            rw [hW1.out]
            refine region_later_tail 6 (by kernel_rfl) (by kernel_rfl) ?_
            simp only [List.take_succ_cons, List.take_zero, List.drop_succ_cons, List.drop_zero]
            repeat (go_big_quiet_step (fail))
            refine wpQuiet_nil ?_
            rintro wz ⟨⟨_, hwz⟩, rfl⟩
            have oz := oW.trans hwz
            clear y2 y3 x0 x1
            have KZ := hide (K5'.out.old oz)
            have KZO := hide oz
            have HMZ := hide (HM5.out.old oz)
            have hdo : don.length ≤ l.length := Nat.le_trans (nodup_len H3.out.nodup H3.out.sub) hdl
            obtain ⟨w6, hput, hm6, hg6⟩ := HMZ.out.map.put undStr Tryz.underlying54 (by unfold maxLen; omega) (s := nameOf k) (by rw [← HSK.out]; exact hsl) (.agg #[.slice A1 n1 c1, .slice A2 n2 c2])
            rw [← HSK.out] at hput
            have C6 := hide (Chg.of_grown hg6)
            have HE5 := hide (hEA.out.old oz)
            have HBZ := hide (hwz.heap HBX.out)
            have hbm5 : bm < w5.heap.size := by omega
            have HB6 := hide ((C6.out.block w5.heap.size (block_lt HBZ.out) (show ¬ w5.heap.size = bm by omega)).trans HBZ.out)
            have b61 : w6.cell? ⟨w5.heap.size, 1, none⟩ = some (.slice A2 n2 c2) := (cell_of_heap HB6.out).trans rfl
            have K6 := hide (KZ.out.wrote C6.out HMZ.out.map.isMap hls.2.2.2.2 hls.2.2.2.1 (by omega))
            have HE6 := hide (hEA.out.old oz |>.chg C6.out (fun b _ hb e => by omega))
            have HQ6 := hide ((C6.out.block w.heap.size (block_lt (oz.heap HQ5.out)) (show ¬ w.heap.size = bm by omega)).trans (oz.heap HQ5.out))
            have HS6 := hide (show Sl w6 (.slice A2 n2 c2) (numsOf S (gAdd f l) k).length (numVals (numsOf S (gAdd f l) k)) by
              obtain ⟨a, b, e, _, hb⟩ := HE6.out
              unfold stVal at e
              injection e with e
              injection e with e
              have e2 : Value.slice A2 n2 c2 = b := by injection e with _ e; injection e
              rw [e2]
              exact hb.sl)
            have CR := hide (contains_rest _ _ w6 HS6.out)
            have HM6 := hide hm6
            have HG6 := hide hg6
            clear hwz oz hm6 hg6 oW
            go_wp2_with fail
            refine CR.out.mono ?_
            rintro e w7 ⟨rfl, h7⟩
            have O7 := hide h7
            have HLE := hide (show ((numsOf S (gAdd f l) k).any restB) = leftB S (gAdd f l) k from rfl)
            rw [HLE.out]
            clear h7 b61 hput CR
            have hleft' : Hid (∀ x, (left3 (nameOf x) && !decide (nameOf x = s)) = (decide (x ∈ done) && !decide (x ∈ don ++ [k]))) := hide (fun x => by
              have h := HLF3.out x
              by_cases hx : x = k
              · subst hx
                rw [HSK.out]
                simp
              · have hne : ¬ nameOf x = s := by
                  rw [HSK.out]
                  exact fun e => hx (nameOf_inj e)
                rw [h]
                simp [hne, hx])
            have HQ7 := hide (O7.out.heap HQ6.out)
            have HNB : Hid (¬ (B bm ∨ (w.heap.size ≤ bm ∧ bm < h1))) := hide (by
              rintro (h | h)
              · exact H3.out.nob h
              · omega)
            have HE7 := hide (HE5.out.mono (B' := fun b => B b ∨ (w.heap.size ≤ b ∧ b < h1)) (fun b _ hb => .inr hb))
            cases hL : leftB S (gAdd f l) k
            · have HLL := hide hL
              have y2 : w7.cell? ⟨w.heap.size, 0, none⟩ = some (.pointer (some ⟨g, 0, none⟩)) := (cell_of_heap HQ7.out).trans rfl
              have K7 := hide (K6.out.old O7.out)
              have y3 : w7.cell? ⟨g, 3, none⟩ = some (.map (some bm)) := (World.cell?_of_block (a := ⟨g, 3, none⟩) (K7.out.chg.block g HG.out.gLt hgne.out)).trans HG.out.c3
              have HM7 := hide (HM6.out.old O7.out)
              clear hL
              go_wp2_with (at_delete; refine wpList_plain rfl (fun Kc hKc => ?_); refine step_map_del _ _ _ _ _ rfl _ undStr Tryz.underlying54 bm _ _ rfl HM7.out s hsl rfl ?_; intro w8 hm8 hg8; refine hKc _ _ ?_; clear hKc)
              have C8 := hide (Chg.of_grown hg8)
              have K8 := hide (K7.out.wrote C8.out HM7.out.isMap hls.2.2.2.2 hls.2.2.2.1 (by omega))
              have HD8 := hide (GMap.drop HMZ.out HLL.out (by rw [← HSK.out] at hm8 ⊢; exact hm8) ((C6.out.step O7.out).trans C8.out (fun _ _ e => e) (fun _ _ e => e)) HNB.out)
              obtain ⟨NX, hcnt⟩ := H3.out.next K8.out ⟨_, HD8.out⟩ hk hkd hleft'.out
              have HQ8' := hide ((C8.out.block w.heap.size (block_lt HQ7.out) (show ¬ w.heap.size = bm by omega)).trans HQ7.out)
              have HNX := hide NX
              have HCN := hide hcnt
              clear NX hcnt hm8 hg8
              simp only [Act.put]
              go_roundw
              case rel => exact ⟨don ++ [k], HNX, HQ8'⟩
              case measure =>
                rw [HCN.out]
                exact hlt
            · have HLL := hide hL
              have HP6 := hide (GMap.put HM5.out KZO.out hKl HLL.out HM6.out HG6.out HE7.out HNB.out)
              obtain ⟨NX, hcnt⟩ := H3.out.next (K6.out.old O7.out) ⟨_, HP6.out.old O7.out⟩ hk hkd hleft'.out
              have HNX := hide NX
              have HCN := hide hcnt
              clear NX hcnt hL
              go_wp2_with fail
              go_roundw
              case rel => exact ⟨don ++ [k], HNX, HQ7⟩
              case measure =>
                rw [HCN.out]
                exact hlt
          case dn3 =>
            intro hend3
            refine hKc _ _ ?_
            clear hKc
            have hall : ∀ k ∈ done, k ∈ don := fun k hk => by
              have h := HLF3.out k
              rw [hend3 (nameOf k)] at h
              exact Decidable.byContradiction fun hd => by simp [hk, hd] at h
            have HKD3 := hide (show KeysOf l don from fun x => ⟨fun hx => (HKD.out x).1 (H3.out.sub x hx), fun hx => hall x ((HKD.out x).2 hx)⟩)
            have hdo : don.length ≤ l.length := Nat.le_trans (nodup_len H3.out.nodup H3.out.sub) hdl
            have hrl := H3.out.rng
            clear hall
            go_wp2_with fail
            go_ret2
            obtain ⟨lf3, hr3, -⟩ := hrl
            have hls := H3.out.lows
            have hcc := H3.out.chg
            have hne := HG.out.ne
            refine ⟨h1, .slice Ao z.length co, z, by rw [HOK.out.1]; rfl, hls.1, by have := hr3.lt; omega, H3.out.its, by rw [HOK.out.2]; exact HDZ.out, HZL.out, ?_, hcc⟩
            refine ⟨(World.cell?_of_block (a := ⟨g, 0, none⟩) (hcc.block g HG.out.gLt hne)).trans HG.out.c0, (World.cell?_of_block (a := ⟨g, 1, none⟩) (hcc.block g HG.out.gLt hne)).trans HG.out.c1, (World.cell?_of_block (a := ⟨g, 2, none⟩) (hcc.block g HG.out.gLt hne)).trans HG.out.c2,
              (World.cell?_of_block (a := ⟨g, 3, none⟩) (hcc.block g HG.out.gLt hne)).trans HG.out.c3, ?_, HG.out.fit.app, HG.out.len.app, ?_, ?_⟩
            · obtain ⟨M9, hM9⟩ := H3.out.map
              rw [mix_all HKD3.out] at hM9
              rw [HOK.out.2]
              exact ⟨M9, hM9.mono (by omega) (fun _ _ e => e)⟩
            · rintro b (hb | hb)
              · have := HG.out.low b hb; have := hcc.size; omega
              · have := hr3.lt; omega
            · rintro (hb | hb)
              · exact HG.out.nob hb
              · omega
end Go.Proofs.YtmfbblcipakaiaaGreatDoor
