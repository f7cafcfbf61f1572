/- The card of CelljOrder is proved: whatever the input, the law hands back true, and the input reads as it did. The row lists the tables of the library's UTF-8, tied to the program's text. No other condition. -/
import Derived.Test.YthlfljmfggmfdaaGreatDoorRows
import Derived.Test.YthlfljmfggmfdaaGreatDoorTie
import Derived.Test.YthlfljmfggmfdaaGreatDoorCards
import Derived.Test.YthlfljmfggmfdaaGreatDoorQf44
import Derived.Test.YthlfljmfggmfdaaGreatDoorQf38
import Derived.Test.YthlfljmfggmfdaaGreatDoorQf34
import Derived.SevenTiedAt
/-! ### The card of CelljOrder is proved: whatever the input, the law hands back true, and the input reads as it did. The row lists the tables of the library's UTF-8, tied to the program's text. No other condition. -/
namespace Go.Proofs.YthlfljmfggmfdaaGreatDoor.celljOrder
open Go.ChangeShapes Go.WideShapes Go.ChangeAt Go.RowKit
theorem own : ownKnob Tryz.prog.godebug = none := by kernel_rfl
set_option maxRecDepth 100000 in
set_option maxHeartbeats 1000000 in
theorem lifted (os : Os) (started : os.Started) (H : Type) (enc : TypeId × Value → H) :
 ReturnsInHanded {} Tryz.checked os 9 .any (fun w args => (Rows.celljOrderSpec.pre enc Tryz.prog Tryz.f9 Rows.celljOrderRow.domain false w args ∧ laidMetH Tryz.prog Rows.celljOrderRow.laid w) ∧ sizedMet enc Tryz.prog Tryz.f9 (OpenSpec.ofChange Rows.celljOrderSpec) false w args) (Rows.celljOrderSpec.post enc Tryz.prog Tryz.f9 false true false false) := by
 refine returnsInHanded_of_change_and (C := Tryz.checked) (X := fun w _ => laidMetH Tryz.prog Rows.celljOrderRow.laid w) (fun _ _ _ hh h => h.of_heap hh) own started (by kernel_rfl) Tryz.func9
  (ChangeSpec.witness_at (enc := enc) (C := Tryz.checked) (os := os) (X := fun w _ => laidMetH Tryz.prog Rows.celljOrderRow.laid w) false _ #[.agg #[.slice none 0 0], .int .i64 0] 8 (by rfl) (by kernel_rfl) (by kernel_rfl) (by kernel_rfl) (by kernel_rfl) (by kernel_rfl) (seven_met os _)) ?_
 intro W base args ds gs before hval0 hW hcnd _ hL _
 obtain ⟨HT, HE⟩ := seven_laid hL
 have HP := seven_pow hL
 have hval : ∀ (j : Nat) t v, Tryz.f9.params[j]? = some t → args[j]? = some v → Value.okWide Tryz.prog W .any base t v := hval0
 have hW' := hW
 obtain ⟨p, q, hA0, hV, rfl, hfz, hnd⟩ := hW
 have hA : DataW.TrodAll enc Tryz.prog W 0 (fun _ => true) true Tryz.f9.params.toList args.toList ds p := hA0
 rw [Tryz.params9] at hA hval
 obtain ⟨v0, vs0, d0, ds0, p0, q0, hargs, rfl, rfl, h0, r0⟩ := trodAll_cons hA
 obtain ⟨v1, vs1, d1, ds1, p1, q1, rfl, rfl, rfl, h1, r1⟩ := trodAll_cons r0
 obtain ⟨rfl, rfl, rfl⟩ := trodAll_nil r1
 obtain rfl : args = #[v0, v1] := by cases args; simp_all
 obtain ⟨rfl, rfl⟩ := trodVars_none hV
 obtain ⟨u0, l0, rfl, hi0⟩ := seed_argC (hval 0 44 v0 rfl rfl) h0
 obtain ⟨x1, rfl, rfl, rfl, w1⟩ := open_int Tryz.underlying3 (hval 1 3 v1 rfl rfl) h1
 have hlt : ∀ x ∈ ((p0 ++ ([] ++ [])) ++ [] : List MemPlace), x.block < W.heap.size := fun x hx => hW'.lt x hx
 refine (order_run u0 l0 x1 W hi0 HE HT HP).mono fun e W' ⟨he, hg⟩ => ?_
 subst he
 refine ⟨_, rfl, post_of_below (pa := p0 ++ ([] ++ [])) (pv := []) hW' (fun _ _ _ => (trodAll_cons_mk (shut_bool Tryz.underlying4 _) trodAll_mk0)) (fun sp hsp => (trodAll_cons_mk (arg_stays (by kernel_rfl) (of_decide_eq_true (by kernel_rfl)) h0 hg (fun x hx => hlt x (by simp [hx])) (fun x hx => hsp x (by simp [hx]))) (trodAll_cons_mk (shut_int Tryz.underlying3 w1) trodAll_mk0))) (fun _ _ => rfl) rfl hg (ok_one (by kernel_rfl) rfl (okWide_bool_mk Tryz.underlying4 _))⟩
theorem over : Rows.celljOrderRow.holds Tryz.pinned (OpenSpec.ofChange Rows.celljOrderSpec) :=
 OpenClaim.holds_of_wide 9 Tryz.f9 rfl rfl rfl rfl rfl rfl rfl ⟨rfl, rfl, rfl, rfl, rfl⟩ rfl rfl rfl rfl rfl (by kernel_rfl) Tryz.func9 (by kernel_rfl)
  (of_decide_eq_true (by kernel_rfl)) (by unfold Func.isWrapper; first | (rw [if_pos (by decide +kernel)]; kernel_rfl) | (rw [if_neg (by decide +kernel)]; exact ⟨rfl, rfl⟩))
  (fun os started H enc _ => lifted os started H enc)
theorem proved : Rows.CelljOrderCardSaid :=
 Claim7.holds_tied_plain_at .later [] [.data, .data, .data, .data, .sentinel, .sentinel, .pinned] true (true, _) true
  over (fun _ h => by cases h) (by kernel_rfl) (fun _ h => by cases h) celljOrder_row_tie rfl ⟨rfl, rfl⟩ (by kernel_rfl) rfl
  (fun f fn hf hfn => by
    obtain rfl : f = 9 := Option.some.inj ((show Tryz.prog.funcNamed "millstream/millstreamlaw19.CelljOrder" = some 9 by kernel_rfl).symm.trans hf) |>.symm
    obtain rfl : fn = Tryz.f9 := (Option.some.inj (Tryz.func9.symm.trans hfn)).symm
    exact ⟨by kernel_rfl, fun j t ht => by
     rw [Tryz.params9] at ht
     match j, ht with
     | 0, ht =>
       obtain rfl : 44 = t := by simpa using ht
       exact (show Tryz.prog.wantsStandIn 44 = false by kernel_rfl)
     | 1, ht =>
       obtain rfl : 3 = t := by simpa using ht
       exact (show Tryz.prog.wantsStandIn 3 = false by kernel_rfl)
     | j + 2, ht => simp at ht⟩)
  (by kernel_rfl)
end Go.Proofs.YthlfljmfggmfdaaGreatDoor.celljOrder
