/- The writer: quote, put and all: what they add to the text. -/
import Derived.Test.YtmolmphbhdbcaaaDoorPartsIt
import Derived.Test.YtmolmphbhdbcaaaDoorQuoW
import Derived.Deep.RegionHeld3
namespace Go.Proofs.YtmolmphbhdbcaaaDoor
open Go.RowKit Go.Shelf

theorem WKept.of_old {B b : Nat} {w w' : World} (h : Old w w') (hB : B ≤ w.heap.size) : WKept B b w w' :=
  ⟨h.mono hB, fun _ _ hk _ _ => h.heap hk⟩
set_option maxRecDepth 100000 in
set_option maxHeartbeats 1000000 in
theorem wquote_run (s : ByteArray) (B b : Nat) (acc : List UInt8) (w : World) (hs : s.size ≤ 17592186044416) (hv : vU s = true) (hT : Tabs w) (h : WBs 58 B b acc w) (hlen : acc.length + 6 * s.size + 2 ≤ 140737488355328) (hBw : B ≤ w.heap.size) :
    Calls Tryd.prog 48 #[.pointer (some ⟨b, 0, none⟩), .string s] w fun e w' => e = .returned (.tuple #[]) ∧ WBs 58 B b (acc ++ quoteL s) w' ∧ WKept B b w w' := by
  have CQ := quote_ok s w hs hv hT
  have hql := (quoteL_len s).2
  have H := hide h
  clear hT h hv
  go_enter Tryd.func48, Tryd.ntmps48
  go_wp2_with fail
  refine CQ.mono ?_
  rintro e w1 ⟨rfl, o1⟩
  clear CQ
  have H1 := WBs.old H.out o1
  have K1 := hide (WKept.of_old (b := b) o1 hBw)
  have hB1 : B ≤ w1.heap.size := Nat.le_trans hBw o1.size
  obtain ⟨q, hq⟩ : ∃ q, Hid (quoteL s = q) := ⟨_, hide rfl⟩
  rw [hq.out] at hql ⊢
  go_wp2_with fail
  refine (wb_WriteString 58 (.inr rfl) B b acc ⟨q.toArray⟩ _ H1 (by simp [ByteArray.size]; omega) hB1).mono ?_
  rintro e w2 ⟨rfl, h2, k2⟩
  have H2 := hide h2
  have K2 := hide (K1.out.trans k2)
  clear h2 k2 H1
  go_wp2_with fail
  go_end0
  exact ⟨rfl, by rw [hq.out]; simpa using H2.out, K2.out⟩
end Go.Proofs.YtmolmphbhdbcaaaDoor
