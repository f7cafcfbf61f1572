/-  -/
import Derived.Test.YthlfljmfggmfdaaGreatDoorProg
import Derived.Shelf.SlSortCmp.NoneTotal
import Derived.Ground.SlsfProg
import Derived.Ground.NamesProg
import Derived.Test.YthlfljmfggmfdaaGreatDoorQf40
import Derived.Sort.OwnSortedInts
import Derived.Test.YthlfljmfggmfdaaGreatDoorQf08
import Derived.Test.YthlfljmfggmfdaaGreatDoorQf17
import Derived.Deep.DeepCutAuto
import Derived.IntWalk
import Derived.Deep.RegionHeld3
/-! ###  -/
namespace Go.Proofs
open Go.Shelf
def Tryz.sortInts_ren : Go.Shelf.Ren := ⟨fun | 6 => 77 | 15 => 109 | 14 => 108 | 28 => 156 | 29 => 157 | 20 => 148 | 21 => 149 | 22 => 150 | 23 => 151 | 24 => 152 | 25 => 153 | 26 => 154 | 27 => 155 | 46 => 187 | 47 => 188 | 48 => 189 | 49 => 190 | 50 => 191 | 57 => 214 | n => n, fun | 22 => 61 | 24 => 3 | 25 => 63 | 3 => 3 | 39 => 155 | 0 => 0 | 53 => 194 | 55 => 196 | 4 => 4 | 46 => 188 | 45 => 187 | 50 => 102 | 5 => 5 | 9 => 9 | 66 => 229 | 70 => 233 | 76 => 254 | 77 => 255 | n => n, fun | n => n⟩
theorem Tryz.sortInts : Go.Proofs.SlLaysF.n6 Tryz.prog Tryz.sortInts_ren := {
 mixed := by kernel_rfl
 f6 := ⟨Tryz.f77.name, by decide, Tryz.func77.trans (congrArg some (by kernel_rfl))⟩
 f14 := ⟨Tryz.f108.name, by decide, Tryz.func108.trans (congrArg some (by kernel_rfl))⟩
 f15 := Tryz.func109.trans (congrArg some (by kernel_rfl))
 f20 := ⟨Tryz.f148.name, by decide, Tryz.func148.trans (congrArg some (by kernel_rfl))⟩
 f21 := ⟨Tryz.f149.name, by decide, Tryz.func149.trans (congrArg some (by kernel_rfl))⟩
 f22 := ⟨Tryz.f150.name, by decide, Tryz.func150.trans (congrArg some (by kernel_rfl))⟩
 f23 := ⟨Tryz.f151.name, by decide, Tryz.func151.trans (congrArg some (by kernel_rfl))⟩
 f24 := ⟨Tryz.f152.name, by decide, Tryz.func152.trans (congrArg some (by kernel_rfl))⟩
 f25 := ⟨Tryz.f153.name, by decide, Tryz.func153.trans (congrArg some (by kernel_rfl))⟩
 f26 := ⟨Tryz.f154.name, by decide, Tryz.func154.trans (congrArg some (by kernel_rfl))⟩
 f27 := ⟨Tryz.f155.name, by decide, Tryz.func155.trans (congrArg some (by kernel_rfl))⟩
 f28 := Tryz.func156.trans (congrArg some (by kernel_rfl))
 f29 := Tryz.func157.trans (congrArg some (by kernel_rfl))
 f46 := ⟨Tryz.f187.name, by decide, Tryz.func187.trans (congrArg some (by kernel_rfl))⟩
 f47 := Tryz.func188.trans (congrArg some (by kernel_rfl))
 f48 := Tryz.func189.trans (congrArg some (by kernel_rfl))
 f49 := ⟨Tryz.f190.name, by decide, Tryz.func190.trans (congrArg some (by kernel_rfl))⟩
 f50 := ⟨Tryz.f191.name, by decide, Tryz.func191.trans (congrArg some (by kernel_rfl))⟩
 f57 := ⟨Tryz.f214.name, by decide, Tryz.func214.trans (congrArg some (by kernel_rfl))⟩
 t0 := Tryz.underlying0
 a0 := Tryz.isAgg0
 z0 := Tryz.sizeOf0
 v0 := Tryz.zeroValue0
 t3 := Tryz.underlying3
 a3 := Tryz.isAgg3
 z3 := Tryz.sizeOf3
 v3 := Tryz.zeroValue3
 t4 := Tryz.underlying4
 a4 := Tryz.isAgg4
 z4 := Tryz.sizeOf4
 v4 := Tryz.zeroValue4
 t5 := Tryz.underlying5
 a5 := Tryz.isAgg5
 z5 := Tryz.sizeOf5
 v5 := Tryz.zeroValue5
 t9 := Tryz.underlying9
 a9 := Tryz.isAgg9
 z9 := Tryz.sizeOf9
 v9 := Tryz.zeroValue9
 t22 := Tryz.underlying61
 a22 := Tryz.isAgg61
 z22 := Tryz.sizeOf61
 v22 := Tryz.zeroValue61
 a24 := Tryz.isAgg3
 z24 := Tryz.sizeOf3
 t25 := Tryz.underlying63
 a25 := Tryz.isAgg63
 z25 := Tryz.sizeOf63
 v25 := Tryz.zeroValue63
 t39 := Tryz.underlying155
 a39 := Tryz.isAgg155
 z39 := Tryz.sizeOf155
 v39 := Tryz.zeroValue155
 t45 := Tryz.underlying187
 a45 := Tryz.isAgg187
 z45 := Tryz.sizeOf187
 v45 := Tryz.zeroValue187
 t46 := Tryz.underlying188
 a46 := Tryz.isAgg188
 z46 := Tryz.sizeOf188
 v46 := Tryz.zeroValue188
 t50 := Tryz.underlying102
 a50 := Tryz.isAgg102
 z50 := Tryz.sizeOf102
 v50 := Tryz.zeroValue102
 t53 := Tryz.underlying194
 a53 := Tryz.isAgg194
 z53 := Tryz.sizeOf194
 v53 := Tryz.zeroValue194
 t55 := Tryz.underlying196
 a55 := Tryz.isAgg196
 z55 := Tryz.sizeOf196
 v55 := Tryz.zeroValue196
 t66 := Tryz.underlying229
 a66 := Tryz.isAgg229
 z66 := Tryz.sizeOf229
 v66 := Tryz.zeroValue229
 t70 := Tryz.underlying233
 a70 := Tryz.isAgg233
 z70 := Tryz.sizeOf233
 v70 := Tryz.zeroValue233
 t76 := Tryz.underlying254
 a76 := Tryz.isAgg254
 z76 := Tryz.sizeOf254
 v76 := Tryz.zeroValue254
 t77 := Tryz.underlying255
 a77 := Tryz.isAgg255
 z77 := Tryz.sizeOf255
 v77 := Tryz.zeroValue255 }
end Go.Proofs

/-! ###  -/
namespace Go.Proofs.YthlfljmfggmfdaaGreatDoor
open Go.RowKit Go.Shelf Go.Lib Go.Sort
theorem sortWorld_grown {α : Type} [Inhabited α] (enc : α → Value) (w : World) (g off n : Nat) (d : Array α) (os : Array Obj) : w.grownBy (sortWorld enc w g off n d os) (some g) := by
 refine ⟨rfl, rfl, rfl, by simp [sortWorld], fun k hk hne => ?_⟩
 unfold sortWorld
 rw [heap_grow_old _ _ (by simpa using hk)]
 have : g ≠ k := fun e => hne (by rw [e])
 simp [putRow, mapBlock, Sort.ahead, Array.getElem?_modify, this]
abbrev Pos (t : List Nd) : Type := { p : Nat // p < t.length }
def Pos.enc {t : List Nd} (p : Pos t) : Value := .int .i64 (p.1 : Int)
def Pos.cf {t : List Nd} (x y : Pos t) : Int := keyOrd t[x.1].key t[y.1].key
def keyAt (t : List Nd) (k : Nat) : ByteArray := (t[k]?.map Nd.key).getD none_
theorem keyAt_get {t : List Nd} {k : Nat} (h : k < t.length) : keyAt t k = t[k].key := by simp [keyAt, h]
theorem keyOrd_neg (a b : ByteArray) : keyOrd a b < 0 ↔ keyLt a b := by
 rw [← less_iff, keyOrd]
 cases Op.bytesLess a.toList b.toList <;> simp
theorem lt_pos {t : List Nd} (x y : Pos t) : ltOf Pos.cf x y = true ↔ keyLt (keyAt t x.1) (keyAt t y.1) := by
 rw [ltOf, decide_eq_true_eq, Pos.cf, keyOrd_neg, keyAt_get x.2, keyAt_get y.2]
theorem lt_pos_no {t : List Nd} (x y : Pos t) : ltOf Pos.cf x y = false ↔ ¬ keyLt (keyAt t x.1) (keyAt t y.1) := by
 rw [← lt_pos, Bool.not_eq_true]
theorem pos_swo (t : List Nd) : SWO (ltOf (Pos.cf (t := t))) where
 irrefl x := (lt_pos_no _ _).2 (keyLt_irrefl _)
 trans x y z h1 h2 := (lt_pos _ _).2 (keyLt_trans ((lt_pos _ _).1 h1) ((lt_pos _ _).1 h2))
 ntrans x y z h1 h2 := by
  rw [lt_pos_no] at *
  exact List.not_lt.2 (List.le_trans (List.not_lt.1 h2) (List.not_lt.1 h1))
theorem sort_ints (g off cap : Nat) (ks : List Nat) (t : List Nd) (rb : Nat) (kv : Value) (w w0 : World) (hne : ks ≠ []) (hn : ks.length ≤ 4194304)
 (hc : ∀ j, (h : j < ks.length) → w.cell? ⟨g, off + j, none⟩ = some (.int .i64 (ks[j] : Int)) ∧ w.frozen? ⟨g, off + j, none⟩ = false) (hg : g < w.heap.size)
 (ho : Old w0 w) (hg0 : w0.heap.size ≤ g) (hrb : w0.cell? ⟨rb, 0, none⟩ = some kv) (hkv : NodesIs w0 kv t) (hk : ∀ k ∈ ks, k < t.length) :
 Calls Tryz.prog 77 #[.slice (some ⟨g, off, none⟩) ks.length cap, .func (.func 78) #[] #[.pointer (some ⟨rb, 0, none⟩)]] w fun e w' =>
  e = .returned (.tuple #[]) ∧ ∃ ks' : List Nat, ks'.Perm ks ∧ ks'.Pairwise (fun a b => ¬ keyLt (keyAt t b) (keyAt t a)) ∧ (∀ j, (h : j < ks'.length) → w'.cell? ⟨g, off + j, none⟩ = some (.int .i64 (ks'[j] : Int))) ∧ w.grownBy w' (some g) := by
 have hpos : 0 < t.length := by
  cases ks with
  | nil => exact absurd rfl hne
  | cons k l => exact Nat.lt_of_le_of_lt (Nat.zero_le _) (hk k (by simp))
 haveI : Inhabited (Pos t) := ⟨⟨0, hpos⟩⟩
 obtain ⟨d, hd⟩ : ∃ d : Array (Pos t), d.toList.map Subtype.val = ks := ⟨(ks.attach.map fun p => (⟨p.1, hk p.1 p.2⟩ : Pos t)).toArray, by simp⟩
 have hsz : d.size = ks.length := by rw [← hd]; simp
 have hget : ∀ j, (h : j < ks.length) → (d[j]!).1 = ks[j] := by
  intro j h
  rw [getElem!_pos d j (by omega)]
  simp [← hd]
 have hH : Holds (α := Pos t) Pos.enc w g off d := by
  intro j hj
  obtain ⟨c1, c2⟩ := hc j (by omega)
  refine ⟨?_, c2⟩
  rw [c1, Pos.enc, hget j (by omega)]
 have eg : ∀ args w, (callFunc 78 args).run Tryz.prog w = .ok (.enter 78 args) w := enters_of Tryz.func78 (by kernel_rfl) rfl
 have hcmp : CmpReads (α := Pos t) Tryz.prog 78 #[.pointer (some ⟨rb, 0, none⟩)] Pos.enc Pos.cf g off d.size w := by
  intro m os dk _ x y
  have hO : Old w0 (sortWorld Pos.enc w g off m dk os) := Below.grown ho (sortWorld_grown _ _ _ _ _ _ _) ho.size fun k hk => by injection hk with hk; omega
  exact key_order x.1 y.1 rb kv t _ x.2 y.2 (hO.cell hrb) (hkv.old hO)
 have h := Any.slices_SortFunc (α := Pos t) Tryz.sortInts Pos.enc (fun _ => rfl) Pos.cf (pos_swo t) 78 #[.pointer (some ⟨rb, 0, none⟩)] g off cap d w eg hcmp.lays hH hg (by omega)
 change Calls Tryz.prog 77 _ _ _ at h
 rw [hsz] at h
 refine h.mono ?_
 rintro e w' ⟨rfl, d', n, os, ⟨p1, _, p3⟩, hs, rfl⟩
 refine ⟨rfl, d'.toList.map Subtype.val, ?_, ?_, ?_, sortWorld_grown _ _ _ _ _ _ _⟩
 · rw [← hd]
   refine List.Perm.map _ ?_
   have e1 : d'.extract 0 ks.length = d' := by rw [← hsz, ← p1]; simp
   have e2 : d.extract 0 ks.length = d := by rw [← hsz]; simp
   rwa [e1, e2] at p3
 · rw [List.pairwise_map, List.pairwise_iff_getElem]
   intro i j hi hj hij
   simp only [Array.length_toList] at hi hj
   have h1 := hs i j (Nat.zero_le _) hij (by omega)
   rw [getElem!_pos d' j hj, getElem!_pos d' i hi] at h1
   exact (lt_pos_no _ _).1 h1
 · intro j hj
   simp only [List.length_map, Array.length_toList] at hj
   have h1 := (holds_sortWorld Pos.enc w g off n d d' os hg hH p1 j hj).1
   rw [h1, Pos.enc, getElem!_pos d' j hj]
   simp
end Go.Proofs.YthlfljmfggmfdaaGreatDoor
namespace Go.Proofs.YthlfljmfggmfdaaGreatDoor
open Go.RowKit
structure Two (p q : Nat) (w w' : World) : Prop where
 os : w'.os = w.os
 tape : w'.tape = w.tape
 output : w'.output = w.output
 size : w.heap.size ≤ w'.heap.size
 block : ∀ k, k < w.heap.size → k ≠ p → k ≠ q → w'.heap[k]? = w.heap[k]?
namespace Two
variable {p q : Nat} {a b c : World}
theorem refl (p q : Nat) (w : World) : Two p q w w := ⟨rfl, rfl, rfl, Nat.le_refl _, fun _ _ _ _ => rfl⟩
theorem trans (h : Two p q a b) (k : Two p q b c) : Two p q a c :=
 ⟨k.os.trans h.os, k.tape.trans h.tape, k.output.trans h.output, Nat.le_trans h.size k.size, fun i h1 h2 h3 => (k.block i (Nat.lt_of_lt_of_le h1 h.size) h2 h3).trans (h.block i h1 h2 h3)⟩
theorem old (h : Two p q a b) (k : Old b c) : Two p q a c :=
 ⟨k.os.trans h.os, k.tape.trans h.tape, k.output.trans h.output, Nat.le_trans h.size k.size, fun i h1 h2 h3 => (k.block i (Nat.lt_of_lt_of_le h1 h.size)).trans (h.block i h1 h2 h3)⟩
theorem grown (h : Two p q a b) (k : b.grownBy c (some q)) : Two p q a c :=
 ⟨k.os.trans h.os, k.tape.trans h.tape, k.output.trans h.output, Nat.le_trans h.size k.size, fun i h1 h2 h3 => (k.block i (Nat.lt_of_lt_of_le h1 h.size) (fun e => h3 (by injection e))).trans (h.block i h1 h2 h3)⟩
theorem drewN (h : Two p q a b) (n : Nat) : Two p q a (b.drewN n) := ⟨h.os, h.tape, h.output, h.size, h.block⟩
theorem setBox (h : Two p q a b) (i : Nat) (u : Value) : Two p q a (b.setCell ⟨p, i, none⟩ u) := by
 have hB : RowKit.Below b.heap.size b b := Below.refl _ _
 refine ⟨h.os, h.tape, h.output, by simpa using h.size, fun k h1 h2 h3 => ?_⟩
 rw [← h.block k h1 h2 h3]
 simp [World.setCell, Array.getElem?_modify, Ne.symm h2]
theorem below (h : Two p q a b) {B : Nat} (hB : B ≤ a.heap.size) (hp : B ≤ p) (hq : B ≤ q) : Below B a b :=
 ⟨h.os, h.tape, h.output, h.size, fun k hk => h.block k (by omega) (by omega) (by omega)⟩
theorem cell (h : Two p q a b) {x : Addr} {v : Value} (hc : a.cell? x = some v) (hp : x.block ≠ p) (hq : x.block ≠ q) : b.cell? x = some v :=
 (World.cell?_of_block (w := a) (h.block x.block (World.block_lt_of_cell? a x hc) hp hq)).trans hc
end Two
theorem step_push_room {o : Oper} {a : Act} {K : Act → World → Prop} {Q : Exit → Act → World → Prop} (w : World) (s x : Operand)
 (ho : o.op = .call { callee := .builtin .append, args := #[s, x], argTypes := #[24, 24] })
 (base g C : Nat) (acc : List Nd) (hs : a.eval s = .slice (some ⟨g, 0, none⟩) acc.length C) (hown : NodesOwn base w (.slice (some ⟨g, 0, none⟩) acc.length C) acc)
 (b cap : Nat) (y : Nd) (hx : a.eval x = .slice (some ⟨b, 0, none⟩) 1 cap) (h0 : ∀ j u, y.vals[j]? = some u → w.cell? ((⟨b, 0, none⟩ : Addr).add j) = some u)
 (hroom : acc.length + 1 ≤ C) (hlen : acc.length + 1 ≤ 4194304) (hbase : base ≤ w.heap.size)
 (h : ∀ w', NodesOwn base w' (.slice (some ⟨g, 0, none⟩) (acc.length + 1) C) (acc ++ [y]) → w.grownBy w' (some g) → K (a.put o.dst (.slice (some ⟨g, 0, none⟩) (acc.length + 1) C)) w') : o.wp Tryz.prog a w K Q := by
 obtain ⟨i0, hi, hz0, hz1, hz2⟩ := info_parts nodeInfo
 have hvc : ∀ u ∈ y.vals, u.oneCell' = true := by rw [← ndVals_one]; exact ndVals_cell _
 obtain ⟨v', w', hr, h2, h3, _⟩ := run_append_own (P := Tryz.prog) w base 24 o.type 36 i0 _ 5 56 Tryz.underlying24 hi hz0 hz1 hz2 rfl (by omega) _ acc.length (ndVals acc) hown ⟨b, 0, none⟩ 1 cap y.vals rfl h0 hvc (by unfold maxLen; omega) (by omega) hbase
 obtain ⟨_, ⟨hv, _⟩ | ⟨g', c', cur, hv, _, hgg, hn, hm, hsz, htk⟩⟩ := hown
 · cases hv
 · injection hv with hv1 hv2 hv3
   injection hv1 with hv1
   injection hv1 with hv1
   subst hv1 hv3
   have hr2 := run_append_room (P := Tryz.prog) w 24 o.type 36 i0 Tryz.underlying24 hi g acc.length C cur hgg ⟨b, 0, none⟩ 1 cap y.vals (by rw [hz1]; rfl) h0 hvc hroom (by rw [hz1, hsz]; show acc.length * 5 + 5 ≤ C * 5; omega)
   rw [hr] at hr2
   injection hr2 with e1 e2
   subst e1
   unfold Oper.wp execOp
   simp only [ho, resolve, invoke, builtin, Sem.run_bind, Sem.run_pure, Result.andThen_ok, List.map_toArray, List.map_cons, List.map_nil, hs, hx, hr]
   refine h w' ?_ h3
   unfold NodesOwn
   rw [ndVals_append, ndVals_one, List.length_append]
   exact h2
end Go.Proofs.YthlfljmfggmfdaaGreatDoor
namespace Go.Proofs.YthlfljmfggmfdaaGreatDoor
open Go.RowKit
theorem starts_ge : ∀ (l : List J) (a : Nat), ∀ p ∈ starts a l, a ≤ p
 | [], _, _, h => absurd h (by simp [starts])
 | j :: l, a, p, h => by
   rw [starts] at h
   rcases List.mem_cons.1 h with e | h
   · omega
   · have := starts_ge l _ p h; omega
theorem starts_pick (t : List Nd) : ∀ (l : List J) (a : Nat) (r : List Nd), t.drop a = J.flats l ++ r →
 ∃ f : Nat → J, (starts a l).map f = l ∧ ∀ p ∈ starts a l, p < t.length ∧ f p ∈ l ∧ keyAt t p = (f p).key ∧ ∃ r', t.drop p = (f p).flat ++ r'
 | [], _, _, _ => ⟨fun _ => .mk ⟨0, none_, 0, none_⟩ [], by simp [starts], fun _ h => absurd h (by simp [starts])⟩
 | j :: l, a, r, hd => by
   rw [flats_cons, List.append_assoc] at hd
   have hd2 : t.drop (a + j.flat.length) = J.flats l ++ r := by
    rw [← List.drop_drop, hd, List.drop_left' rfl]
   obtain ⟨f, hf, hm⟩ := starts_pick t l _ r hd2
   have hpos := flat_pos j
   have hne : ∀ p ∈ starts (a + j.flat.length) l, p ≠ a := fun p hp => by have := starts_ge l _ p hp; omega
   refine ⟨fun p => if p = a then j else f p, ?_, ?_⟩
   · rw [starts, List.map_cons, if_pos rfl]
     congr 1
     refine Eq.trans (List.map_congr_left fun p hp => ?_) hf
     rw [if_neg (hne p hp)]
   · intro p hp
     rw [starts] at hp
     by_cases e : p = a
     · subst e
       obtain ⟨h1, h2⟩ := head_flat hd
       simp only [if_true]
       exact ⟨h1, by simp, by rw [keyAt_get h1, h2]; rfl, _, hd⟩
     · have hp' := (List.mem_cons.1 hp).resolve_left e
       obtain ⟨h1, h2, h3, h4⟩ := hm p hp'
       simp only [if_neg e]
       exact ⟨h1, by simp [h2], h3, h4⟩
theorem found_sorted (V : ByteArray → Bool) {t : List Nd} {l : List J} {a : Nat} {f : Nat → J} {ks : List Nat} (hf : (starts a l).map f = l) (hm : ∀ p ∈ starts a l, keyAt t p = (f p).key) (hk : keysOk V [] (l.map J.key))
 (hp : ks.Perm (starts a l)) (hs : ks.Pairwise fun a b => ¬ keyLt (keyAt t b) (keyAt t a)) : (ks.map f).map J.sort = ordJ (J.sorts l) := by
 have hA := (apt_of_keys V l [] hk).1
 have hpl : (ks.map f).Perm l := by
  have := hp.map f
  rwa [hf] at this
 refine ord_found hpl hA ?_
 have hA2 : AptJ (ks.map f) := (hpl.symm.pairwise_iff (fun {a b} h => h.symm)).1 hA
 unfold UpJ AptJ at *
 rw [List.pairwise_map] at hA2 ⊢
 refine (hs.and hA2).imp_of_mem fun {x y} hx hy h => ?_
 have e1 := hm x (hp.mem_iff.1 hx)
 have e2 := hm y (hp.mem_iff.1 hy)
 rw [← e1, ← e2]
 refine keyLt_total h.1 fun e => h.2 ?_
 rw [← e1, ← e2, e]
end Go.Proofs.YthlfljmfggmfdaaGreatDoor
namespace Go.Proofs.YthlfljmfggmfdaaGreatDoor
open Go.RowKit Go.Shelf
theorem sort_any (v : Value) (ks : List Nat) (t : List Nd) (rb base : Nat) (kv : Value) (w w0 : World) (hn : ks.length ≤ 4194304) (hv : IntsT base w v ks)
 (ho : Old w0 w) (hg0 : w0.heap.size ≤ base) (hrb : w0.cell? ⟨rb, 0, none⟩ = some kv) (hkv : NodesIs w0 kv t) (hk : ∀ k ∈ ks, k < t.length) :
 Calls Tryz.prog 77 #[v, .func (.func 78) #[] #[.pointer (some ⟨rb, 0, none⟩)]] w fun e w' =>
  e = .returned (.tuple #[]) ∧ ∃ ks' : List Nat, ks'.Perm ks ∧ ks'.Pairwise (fun a b => ¬ keyLt (keyAt t b) (keyAt t a)) ∧ (∃ A cap, v = .slice A ks'.length cap ∧ ks'.length ≤ cap ∧ cap ≤ maxLen ∧
   (ks' = [] ∨ ∃ b off, A = some ⟨b, off, none⟩ ∧ base ≤ b ∧ b < w.heap.size ∧ ∀ j, (h : j < ks'.length) → w'.cell? ⟨b, off + j, none⟩ = some (.int .i64 (ks'[j] : Int)))) ∧
   ∃ B, base ≤ B ∧ w.grownBy w' (some B) := by
 obtain ⟨A, cap, rfl, h1, h2, h3⟩ := hv
 by_cases hne : ks = []
 · subst hne
   have h := fun W => AnyF.slices_SortFunc_none (P := Tryz.prog) (ρ := Tryz.sortInts_ren) { Tryz.sortInts with } A cap (.func (.func 78) #[] #[.pointer (some ⟨rb, 0, none⟩)]) W
   change ∀ W, Calls Tryz.prog 77 _ _ _ at h
   refine (h w).mono ?_
   rintro e w' ⟨rfl, rfl⟩
   exact ⟨rfl, [], .refl _, List.Pairwise.nil, ⟨A, cap, rfl, h1, h2, .inl rfl⟩, base, Nat.le_refl _, World.grownBy.refl _ _⟩
 · obtain ⟨b, off, cs, rfl, hb, hh, hc⟩ := h3 (by cases ks with | nil => exact absurd rfl hne | cons _ _ => simp [intVals])
   have hbw := block_lt hh
   refine (sort_ints b off cap ks t rb kv w w0 hne hn ?_ hbw ho (Nat.le_trans hg0 hb) hrb hkv hk).mono ?_
   · intro j hj
     refine ⟨(cell_of_heap hh).trans (hc j _ (by simp [intVals, hj])), free_of_heap hh⟩
   · rintro e w' ⟨rfl, ks', p1, p2, p3, p4⟩
     have hl := p1.length_eq
     exact ⟨rfl, ks', p1, p2, ⟨_, cap, by rw [hl], by omega, h2, .inr ⟨b, off, rfl, hb, hbw, p3⟩⟩, b, hb, p4⟩
end Go.Proofs.YthlfljmfggmfdaaGreatDoor
namespace Go.Proofs.YthlfljmfggmfdaaGreatDoor
open Go.RowKit
theorem kid_ok {V : ByteArray → Bool} {j : J} (h : j.Ok V) : ∀ x ∈ j.kids, x.Ok V := by
 cases j with
 | mk hd l =>
   rw [J.Ok] at h
   intro x hx
   rcases h with ⟨_, e⟩ | ⟨_, _, h, _⟩ | ⟨_, _, h, _⟩
   · rw [J.kids, e] at hx; simp at hx
   · exact oks_mem h x hx
   · exact oks_mem h x hx
theorem ok_keys {V : ByteArray → Bool} {j : J} (h : j.Ok V) (h7 : j.hd.kind = 7) : keysOk V [] (j.kids.map J.key) := by
 cases j with
 | mk hd l =>
   rw [J.Ok] at h
   have h7' : hd.kind = 7 := h7
   rcases h with ⟨h, _⟩ | ⟨h, _⟩ | ⟨_, _, _, h⟩
   · rcases h with ⟨h | h | h, _⟩ | ⟨h, _⟩ | ⟨h, _⟩ <;> omega
   · omega
   · exact h
theorem flats_mem_le {l : List J} {x : J} (h : x ∈ l) : x.flat.length ≤ (J.flats l).length := by
 induction l with
 | nil => simp at h
 | cons j l ih =>
   rw [flats_cons, List.length_append]
   rcases List.mem_cons.1 h with e | h
   · subst e; omega
   · have := ih h; omega
theorem flat_kids (j : J) : j.flat.length = (J.flats j.kids).length + 1 := by
 cases j; rw [flat_mk, List.length_cons]; rfl
theorem room_next {l l' : List J} (hp : l'.Perm l) {a : Nat} (ha : a < l'.length) : (J.flats ((l'.take a).map J.sort)).length + l'[a].flat.length ≤ (J.flats l).length := by
 have h1 : (J.flats ((l'.take a).map J.sort)).length = (J.flats (l'.take a)).length := by rw [← sorts_map, sort_len.2]
 rw [h1, ← List.length_append, ← flats_take_snoc ha, ← flats_perm hp]
 exact flats_take_le l' (a + 1)
theorem sorted_next {l : List J} {a : Nat} (ha : a < l.length) (acc : List Nd) : acc ++ J.flats ((l.take (a + 1)).map J.sort) = acc ++ J.flats ((l.take a).map J.sort) ++ l[a].sort.flat := by
 rw [List.take_succ_eq_append_getElem ha, List.map_append, flats_append, List.map_cons, List.map_nil, flats_one, List.append_assoc]
theorem sort_flat_obj {j : J} (h7 : j.hd.kind = 7) {n : Nat} (hn : j.flat.length = n) : j.sort.flat = [⟨j.hd.kind, j.hd.key, j.hd.n, j.hd.s, n⟩] ++ J.flats (ordJ (J.sorts j.kids)) := by
 cases j with
 | mk h l =>
   have e : h.kind = 7 := h7
   have hk := flat_kids (.mk h l)
   rw [J.sort, if_pos e, flat_mk, flats_perm (ordJ_perm _), sort_len.2]
   have e2 : ((J.flats l).length : Int) + 1 = (n : Int) := by rw [← hn, hk]; rfl
   rw [e2]; rfl
theorem sort_flat_not {j : J} (h7 : ¬ j.hd.kind = 7) {n : Nat} (hn : j.flat.length = n) : j.sort.flat = [⟨j.hd.kind, j.hd.key, j.hd.n, j.hd.s, n⟩] ++ J.flats (j.kids.map J.sort) := by
 cases j with
 | mk h l =>
   have e : ¬ h.kind = 7 := h7
   have hk := flat_kids (.mk h l)
   rw [J.sort, if_neg e, flat_mk, sort_len.2, sorts_map]
   have e2 : ((J.flats l).length : Int) + 1 = (n : Int) := by rw [← hn, hk]; rfl
   rw [e2]; rfl
end Go.Proofs.YthlfljmfggmfdaaGreatDoor

/-! ###  -/
namespace Go.Proofs.YthlfljmfggmfdaaGreatDoor
open Go.RowKit
structure SeedIs (sb : Nat) (w : World) (N : List Int) : Prop where
 box : ∃ A c, w.cell? ⟨sb, 0, none⟩ = some (.slice A N.length c) ∧ N.length ≤ c ∧ c ≤ maxLen ∧ (N ≠ [] → ∃ b off, A = some ⟨b, off, none⟩ ∧ b < sb ∧ ∀ j u, N[j]? = some u → w.cell? ⟨b, off + j, none⟩ = some (.int .i64 u))
 free : w.frozen? ⟨sb, 0, none⟩ = false
theorem SeedIs.old {sb : Nat} {w w' : World} {N : List Int} (h : SeedIs sb w N) (k : Old w w') : SeedIs sb w' N := by
 obtain ⟨⟨A, c, h1, h2, h3, h4⟩, h5⟩ := h
 refine ⟨⟨A, c, k.cell h1, h2, h3, fun hne => ?_⟩, k.frozen h1 h5⟩
 obtain ⟨b, off, rfl, hb, hc⟩ := h4 hne
 exact ⟨b, off, rfl, hb, fun j u hu => k.cell (hc j u hu)⟩
theorem SeedIs.below {sb B : Nat} {w w' : World} {N : List Int} (h : SeedIs sb w N) (k : RowKit.Below B w w') (hs : sb < B) : SeedIs sb w' N := by
 obtain ⟨⟨A, c, h1, h2, h3, h4⟩, h5⟩ := h
 refine ⟨⟨A, c, (k.cell hs).trans h1, h2, h3, fun hne => ?_⟩, (k.frozen hs).trans h5⟩
 obtain ⟨b, off, rfl, hb, hc⟩ := h4 hne
 exact ⟨b, off, rfl, hb, fun j u hu => (k.cell (show b < B by omega)).trans (hc j u hu)⟩
theorem SlT.two {T lo n : Nat} {sb : Nat} {w w' : World} {v : Value} {xs : List Value} (h : SlT T lo w v n xs) (k : Two sb sb w w') (hs : sb < lo) : SlT T lo w' v n xs := by
 obtain ⟨A, cap, rfl, h1, h2, h3⟩ := h
 refine ⟨A, cap, rfl, h1, h2, fun hx => ?_⟩
 obtain ⟨b, off, cs, rfl, hl, hh, hc⟩ := h3 hx
 refine ⟨b, off, cs, rfl, hl, ?_, hc⟩
 rw [k.block b (block_lt hh) (by omega) (by omega)]
 exact hh
theorem own_two {base T size n : Nat} {sb : Nat} {w w' : World} {v : Value} {xs : List Value} (h : w.ownsRow base T size v n xs) (k : Two sb sb w w') (hs : sb < base) : w'.ownsRow base T size v n xs := by
 obtain ⟨hl, h2⟩ := h
 refine ⟨hl, ?_⟩
 rcases h2 with h2 | ⟨g, cap, cur, rfl, hb, hh, r⟩
 · exact .inl h2
 · refine .inr ⟨g, cap, cur, rfl, hb, ?_, r⟩
   rw [k.block g (block_lt hh) (by omega) (by omega)]
   exact hh
theorem PartsOwn.two {base sb : Nat} {w w' : World} {v : Value} {ps : List (List Nd)} (h : PartsOwn base w v ps) (k : Two sb sb w w') (hs : sb < base) : PartsOwn base w' v ps := by
 obtain ⟨vs, h1, h2, h3⟩ := h
 exact ⟨vs, h1, own_two h2 k hs, fun i hi hi' => (h3 i hi hi').two k hs⟩
end Go.Proofs.YthlfljmfggmfdaaGreatDoor
namespace Go.Proofs.YthlfljmfggmfdaaGreatDoor
open Go.RowKit
def words : List ByteArray := [⟨#[]⟩, ⟨#[97]⟩, ⟨#[98]⟩, ⟨#[97, 98]⟩, ⟨#[0]⟩, ⟨#[195, 164]⟩, ⟨#[34, 92]⟩, ⟨#[122]⟩, ⟨#[240, 159, 152, 128]⟩, ⟨#[10, 31, 47]⟩]
theorem words_size : ∀ s ∈ words, s.size ≤ 4 := by decide
def letterAt (i : Nat) : ByteArray := ⟨#[(97 + i).toUInt8]⟩
theorem word_letters : (words.all fun s => (List.range 5).all fun i => vU (s ++ letterAt i)) = true := by kernel_rfl
theorem word_letter : ∀ s ∈ words, ∀ i : Nat, i < 5 → vU (s ++ letterAt i) = true := by
 intro s hs i hi
 exact List.all_eq_true.1 (List.all_eq_true.1 word_letters s hs) i (List.mem_range.2 hi)
theorem letter_apart {s t : ByteArray} {i j : Nat} (hi : i < 5) (hj : j < 5) (h : s ++ letterAt i = t ++ letterAt j) : i = j := by
 have e := congrArg (fun x : ByteArray => x.data.toList.getLast?) h
 simp only [ByteArray.data_append, letterAt, Array.toList_append] at e
 simp only [List.getLast?_append, List.getLast?_singleton, Option.some_or, Option.some.injEq] at e
 have h5 : i = 0 ∨ i = 1 ∨ i = 2 ∨ i = 3 ∨ i = 4 := by omega
 have h6 : j = 0 ∨ j = 1 ∨ j = 2 ∨ j = 3 ∨ j = 4 := by omega
 rcases h5 with rfl | rfl | rfl | rfl | rfl <;> rcases h6 with rfl | rfl | rfl | rfl | rfl <;> first | rfl | (revert e; decide)
theorem SeedIs.lt {sb : Nat} {w : World} {N : List Int} (h : SeedIs sb w N) : sb < w.heap.size := by
 obtain ⟨⟨A, c, h1, _⟩, _⟩ := h
 exact World.block_lt_of_cell? w _ h1
end Go.Proofs.YthlfljmfggmfdaaGreatDoor
namespace Go.Proofs.YthlfljmfggmfdaaGreatDoor
open Go.RowKit
theorem rekey_ok {V : ByteArray → Bool} {k : ByteArray} {j : J} (h : J.Ok V j) : J.Ok V (j.rekey k) := by
 cases j with
 | mk hd l =>
   simp only [J.rekey, J.Ok, leafOk, plainHd] at *
   exact h
theorem rekeys_oks {V : ByteArray → Bool} : ∀ {ks : List ByteArray} {js : List J}, J.Oks V js → J.Oks V (rekeys ks js)
 | [], _, _ => by simp [rekeys, J.Oks]
 | _ :: _, [], _ => by simp [rekeys, J.Oks]
 | k :: ks, j :: js, h => by
   simp only [J.Oks] at h
   simp only [rekeys, J.Oks]
   exact ⟨rekey_ok h.1, rekeys_oks h.2⟩
theorem rekey_key (k : ByteArray) (j : J) : (j.rekey k).key = k := by cases j; rfl
theorem rekeys_keys : ∀ {ks : List ByteArray} {js : List J}, ks.length = js.length → (rekeys ks js).map J.key = ks
 | [], [], _ => rfl
 | k :: ks, j :: js, h => by
   simp only [rekeys, List.map_cons, rekey_key]
   rw [rekeys_keys (by simpa using h)]
theorem rekeys_flats : ∀ {ks : List ByteArray} {js : List J}, ks.length = js.length → (J.flats (rekeys ks js)).length = (J.flats js).length
 | [], [], _ => rfl
 | k :: ks, j :: js, h => by
   rw [rekeys, flats_cons, flats_cons, List.length_append, List.length_append, rekey_size, rekeys_flats (by simpa using h)]
theorem keysOk_of {V : ByteArray → Bool} : ∀ {ks had : List ByteArray}, (∀ s ∈ ks, V s = true) → ks.Nodup → (∀ s ∈ ks, s ∉ had) → keysOk V had ks
 | [], _, _, _, _ => by simp [keysOk]
 | k :: ks, had, h1, h2, h3 => by
   obtain ⟨h4, h5⟩ := List.nodup_cons.1 h2
   refine ⟨h1 k (by simp), h3 k (by simp), keysOk_of (fun s hs => h1 s (by simp [hs])) h5 fun s hs => ?_⟩
   simp only [List.mem_append, List.mem_singleton, not_or]
   exact ⟨h3 s (by simp [hs]), fun e => h4 (e ▸ hs)⟩
def Tiny (l : List Nd) : Prop := ∀ x ∈ l, x.key.size ≤ 5 ∧ x.s.size ≤ 4 ∧ -9223372036854775808 ≤ x.n ∧ x.n ≤ 9223372036854775807
theorem Tiny.texts {l : List Nd} (h : Tiny l) : TextsOk l := fun x hx => by
 have := h x hx
 unfold maxLen
 omega
theorem texts_rekey {k : ByteArray} {j : J} (hk : k.size ≤ 5) (h : Tiny j.flat) : Tiny (j.rekey k).flat := by
 cases j with
 | mk hd l =>
   intro x hx
   rw [J.rekey, flat_mk, List.mem_cons] at hx
   rcases hx with rfl | hx
   · exact ⟨hk, (h ⟨hd.kind, hd.key, hd.n, hd.s, (J.flats l).length + 1⟩ (by rw [flat_mk]; exact List.mem_cons_self)).2⟩
   · exact h x (by rw [flat_mk]; exact List.mem_cons_of_mem _ hx)
theorem texts_rekeys : ∀ {ks : List ByteArray} {js : List J}, (∀ s ∈ ks, s.size ≤ 5) → (∀ j ∈ js, Tiny j.flat) → Tiny (J.flats (rekeys ks js))
 | [], _, _, _ => by intro x hx; simp [rekeys, J.flats] at hx
 | _ :: _, [], _, _ => by intro x hx; simp [rekeys, J.flats] at hx
 | k :: ks, j :: js, h1, h2 => by
   intro x hx
   rw [rekeys, flats_cons, List.mem_append] at hx
   rcases hx with hx | hx
   · exact texts_rekey (h1 k (by simp)) (h2 j (by simp)) x hx
   · exact texts_rekeys (fun s hs => h1 s (by simp [hs])) (fun j hj => h2 j (by simp [hj])) x hx
theorem texts_flats {js : List J} (h : ∀ j ∈ js, Tiny j.flat) : Tiny (J.flats js) := by
 induction js with
 | nil => intro x hx; simp [J.flats] at hx
 | cons j js ih =>
   intro x hx
   rw [flats_cons, List.mem_append] at hx
   rcases hx with hx | hx
   · exact h j (by simp) x hx
   · exact ih (fun y hy => h y (by simp [hy])) x hx
theorem texts_root {k : Int} {l : List J} (h : Tiny (J.flats l)) : Tiny (J.flat (.mk ⟨k, none_, 0, none_⟩ l)) := by
 intro x hx
 rw [flat_mk, List.mem_cons] at hx
 rcases hx with rfl | hx
 · exact ⟨Nat.zero_le _, Nat.zero_le _, by show (-9223372036854775808 : Int) ≤ 0; omega, by show (0 : Int) ≤ 9223372036854775807; omega⟩
 · exact h x hx
structure KidsS (deep n0 i : Nat) (js : List J) (pl : List (List Nd)) (ks : List ByteArray) (m : Nat) : Prop where
 may : AllMay pl js
 texts : ∀ p ∈ pl, Tiny p
 deeps : J.deeps js + deep ≤ 7
 len : pl.length + i ≤ 4
 klen : ks.length = pl.length
 size : (J.flats js).length + 2 * m + 4 ≤ pl.length + 2 * n0
 left : m ≤ n0
 keys : ∀ s ∈ ks, ∃ x ∈ words, ∃ c, i < c ∧ c < 5 ∧ s = x ++ letterAt c
 nodup : ks.Nodup
theorem KidsS.zero {deep n0 i m : Nat} (hd : deep ≤ 7) (hi : i ≤ 4) (hm : m + 2 ≤ n0) : KidsS deep n0 i [] [] [] m where
 may := ⟨rfl, fun i h => absurd h (by simp)⟩
 texts := by simp
 deeps := by simp only [J.deeps]; omega
 len := by simpa using hi
 klen := rfl
 size := by simp only [J.flats, List.length_nil]; omega
 left := by omega
 keys := by simp
 nodup := List.nodup_nil
theorem KidsS.next {deep n0 i m m' : Nat} {js : List J} {pl : List (List Nd)} {ks : List ByteArray} (h : KidsS deep n0 (i + 1) js pl ks m) {t : List Nd} {j : J} {x : ByteArray} (hm : May t j) (ht : Tiny t) (hd : j.deep + (deep + 1) ≤ 8) (hs : t.length + 2 * m' ≤ 1 + 2 * m) (hl : m' ≤ m) (hx : x ∈ words) {m2 : Nat} (hm2 : m2 ≤ m') :
 KidsS deep n0 i (js ++ [j]) (pl ++ [t]) (ks ++ [x ++ letterAt (i + 1)]) m2 where
 may := by
  refine ⟨by simp [h.may.1], fun k hk hk' => ?_⟩
  have hl := h.may.1
  rcases Nat.lt_or_ge k pl.length with hlt | hge
  · rw [List.getElem_append_left hlt, List.getElem_append_left (by omega)]
    exact h.may.2 k hlt (by omega)
  · rw [List.getElem_append_right hge, List.getElem_append_right (by omega)]
    simpa using hm
 texts := by
  intro p hp
  rcases List.mem_append.1 hp with hp | hp
  · exact h.texts p hp
  · simp at hp
    subst hp
    exact ht
 deeps := by
  have := h.deeps
  rw [deeps_append]
  simp only [J.deeps]
  omega
 len := by have := h.len; simp; omega
 klen := by simp [h.klen]
 size := by
  have := h.size
  have e := hm.1.2.2
  rw [flats_append, flats_one, List.length_append, ← e]
  simp only [List.length_append, List.length_cons, List.length_nil]
  omega
 left := by have := h.left; omega
 keys := by
  intro s hs
  rcases List.mem_append.1 hs with hs | hs
  · obtain ⟨y, h1, c, h2, h3, h4⟩ := h.keys s hs
    exact ⟨y, h1, c, by omega, h3, h4⟩
  · simp at hs
    subst hs
    exact ⟨x, hx, i + 1, by omega, by have := h.len; omega, rfl⟩
 nodup := by
  have hlen := h.len
  refine List.nodup_append.2 ⟨h.nodup, by simp, fun s hs u hu => ?_⟩
  simp at hu
  subst hu
  rintro rfl
  obtain ⟨y, h1, c, h2, h3, h4⟩ := h.keys _ hs
  have := letter_apart (i := i + 1) (j := c) (by omega) h3 h4
  omega
theorem KidsS.key_size {deep n0 i m : Nat} {js : List J} {pl : List (List Nd)} {ks : List ByteArray} (h : KidsS deep n0 i js pl ks m) : ∀ s ∈ ks, s.size ≤ 5 := by
 intro s hs
 obtain ⟨x, h1, c, _, _, rfl⟩ := h.keys s hs
 have := words_size x h1
 rw [ByteArray.size_append]
 have e : (letterAt c).size = 1 := rfl
 omega
theorem KidsS.key_valid {deep n0 i m : Nat} {js : List J} {pl : List (List Nd)} {ks : List ByteArray} (h : KidsS deep n0 i js pl ks m) : ∀ s ∈ ks, vU s = true := by
 intro s hs
 obtain ⟨x, h1, c, _, h3, rfl⟩ := h.keys s hs
 exact word_letter x h1 c h3
theorem allMay_oks {pl : List (List Nd)} {js : List J} (h : AllMay pl js) : J.Oks vU js := oks_of fun j hj => by
 obtain ⟨i, hi, rfl⟩ := List.getElem_of_mem hj
 exact (h.2 i (by have := h.1; omega) hi).1.1
theorem allMay_texts {pl : List (List Nd)} {js : List J} (h : AllMay pl js) (ht : ∀ p ∈ pl, Tiny p) : ∀ j ∈ js, Tiny j.flat := by
 intro j hj
 obtain ⟨i, hi, rfl⟩ := List.getElem_of_mem hj
 have hip : i < pl.length := by have := h.1; omega
 rw [← (h.2 i hip hi).1.2.2]
 exact ht _ (List.getElem_mem hip)
theorem KidsS.list {deep n0 i m : Nat} {js : List J} {pl : List (List Nd)} {ks : List ByteArray} (h : KidsS deep n0 i js pl ks m) (hn : n0 ≤ 150) :
 May (J.flat (.mk ⟨6, none_, 0, none_⟩ js)) (.mk ⟨6, none_, 0, none_⟩ js) ∧ ListT pl (J.flat (.mk ⟨6, none_, 0, none_⟩ js)) 0 ∧ Tiny (J.flat (.mk ⟨6, none_, 0, none_⟩ js)) ∧ (J.flat (.mk ⟨6, none_, 0, none_⟩ js)).length + 2 * m ≤ 1 + 2 * n0 ∧ (J.mk ⟨6, none_, 0, none_⟩ js).deep + deep ≤ 8 := by
 have h1 := h.size
 have h2 := h.len
 have h3 := h.deeps
 have hlen : (J.flat (.mk ⟨6, none_, 0, none_⟩ js)).length = (J.flats js).length + 1 := by rw [flat_mk, List.length_cons]
 refine ⟨⟨⟨?_, rfl, rfl⟩, by omega, by simp only [J.deep]; omega⟩, .inr ⟨js, h.may, .inr (.inr ⟨by omega, by omega, rfl, rfl⟩)⟩, texts_root (texts_flats (allMay_texts h.may h.texts)), by omega, by simp only [J.deep]; omega⟩
 simp only [J.Ok]
 exact .inr (.inl ⟨by trivial, ⟨rfl, rfl⟩, allMay_oks h.may, allMay_keys h.may⟩)
theorem KidsS.obj {deep n0 i m : Nat} {js : List J} {pl : List (List Nd)} {ks : List ByteArray} (h : KidsS deep n0 i js pl ks m) (hn : n0 ≤ 150) :
 May (J.flat (.mk ⟨7, none_, 0, none_⟩ (rekeys ks js))) (.mk ⟨7, none_, 0, none_⟩ (rekeys ks js)) ∧ ObjT ks pl (J.flat (.mk ⟨7, none_, 0, none_⟩ (rekeys ks js))) 0 ∧ Tiny (J.flat (.mk ⟨7, none_, 0, none_⟩ (rekeys ks js))) ∧ (J.flat (.mk ⟨7, none_, 0, none_⟩ (rekeys ks js))).length + 2 * m ≤ 1 + 2 * n0 ∧ (J.mk ⟨7, none_, 0, none_⟩ (rekeys ks js)).deep + deep ≤ 8 := by
 have h1 := h.size
 have h2 := h.len
 have h3 := h.deeps
 have hk : ks.length = js.length := h.klen.trans h.may.1
 have hlen : (J.flat (.mk ⟨7, none_, 0, none_⟩ (rekeys ks js))).length = (J.flats js).length + 1 := by rw [flat_mk, List.length_cons, rekeys_flats hk]
 have hdp := rekeys_deeps ks js hk
 have hks : ∀ s ∈ ks, s.size ≤ 5 := h.key_size
 refine ⟨⟨⟨?_, rfl, rfl⟩, by omega, by simp only [J.deep]; omega⟩, .inr ⟨h.klen, .inr ⟨fun j hj => ?_, js, h.may, .inr (.inr ⟨by rw [rekeys_flats hk]; omega, by omega, rfl, rfl⟩)⟩⟩, texts_root (texts_rekeys hks (allMay_texts h.may h.texts)), by omega, by simp only [J.deep]; omega⟩
 · simp only [J.Ok]
   refine .inr (.inr ⟨by trivial, ⟨rfl, rfl⟩, rekeys_oks (allMay_oks h.may), ?_⟩)
   rw [rekeys_keys hk]
   exact keysOk_of h.key_valid h.nodup (by simp)
 · have hjk : j < ks.length := by rw [h.klen]; exact hj
   rw [objErr_chk hjk hj (h.key_valid _ (List.getElem_mem hjk)) (by
    rw [hasKey_not]
    intro hm
    obtain ⟨i, hi, e⟩ := List.mem_take_iff_getElem.1 hm
    have := (List.getElem_inj h.nodup).1 e
    omega)]
   exact allMay_chk h.may j hj
end Go.Proofs.YthlfljmfggmfdaaGreatDoor
namespace Go.Proofs.YthlfljmfggmfdaaGreatDoor
open Go.RowKit
end Go.Proofs.YthlfljmfggmfdaaGreatDoor
namespace Go.Proofs.YthlfljmfggmfdaaGreatDoor
open Go.RowKit
end Go.Proofs.YthlfljmfggmfdaaGreatDoor
