/-  -/
import Derived.Test.YthlfljmfggmfdaaGreatDoorQk01
import Derived.Lib.Hide
import Derived.Test.YthlfljmfggmfdaaGreatDoorProg
import Derived.Maps.OwnSet
import Derived.StringKeys
import Derived.Laws.OwnMore
/-! ###  -/
namespace Go.Proofs.YthlfljmfggmfdaaGreatDoor
open Go.RowKit
theorem hide {p : Prop} (h : p) : Hid p := h
theorem ret_bool {a b : Bool} (h : a = b) : Ending.returned (.bool a) = .returned (.bool b) := by rw [h]
theorem ret_int {k : IntKind} {a b : Int} (h : a = b) : Ending.returned (.int k a) = .returned (.int k b) := by rw [h]
structure Kept (T base : Nat) (w w' : World) : Prop where
 low : Below base w w'
 other : ∀ (b : Nat) (cs : Array Value) (T' : TypeId) (f : Nat × Nat), w.heap[b]? = some (.cells cs T' f) → T' ≠ T → w'.heap[b]? = some (.cells cs T' f)
theorem Kept.of_grown {T base size n : Nat} {w w' : World} {v : Value} {xs : List Value} (h : w.ownsRow base T size v n xs) (hg : w.grownBy w' v.ownBlock) (hb : base ≤ w.heap.size) : Kept T base w w' where
 low := (Below.refl base w).grown hg hb fun k hk => (h.lt k hk).1
 other := by
  intro b cs T' f hh hne
  rw [hg.block b (block_lt hh) ?_]
  · exact hh
  · intro e
    obtain ⟨cs', T'', f', hh', hT⟩ := own_block h b e.symm
    rw [hh] at hh'
    injection hh' with hh'
    injection hh' with _ hT' _
    exact hne (hT'.trans hT)
theorem Kept.slT {T T' base lo n : Nat} {w w' : World} {v : Value} {xs : List Value} (k : Kept T base w w') (h : SlT T' lo w v n xs) (hne : T' ≠ T) : SlT T' lo w' v n xs := by
 obtain ⟨A, cap, rfl, h1, h2, h3⟩ := h
 refine ⟨A, cap, rfl, h1, h2, fun hx => ?_⟩
 obtain ⟨b, off, cs, rfl, hl, hh, hc⟩ := h3 hx
 exact ⟨b, off, cs, rfl, hl, k.other _ _ _ _ hh hne, hc⟩
theorem Kept.old {T base : Nat} {w0 w w' : World} (k : Kept T base w w') (h : Old w0 w) (hb : w0.heap.size ≤ base) : Old w0 w' := Below.trans h (k.low.mono hb)
theorem run_append_sl {P : Program} (w : World) (base : Nat) (t ty e : TypeId) (i : TypeInfo) (z : Value) (size bytes : Nat) (ht : P.underlying t = some (.slice e)) (hi : P.info? e = some i) (hz : i.zero = some z)
 (hsize : i.size = size) (hby : i.bytes = bytes) (hzs : z.cells.size = size) (hsz : 0 < size) (v : Value) (n : Nat) (xs : List Value) (hown : w.ownsRow base e size v n xs)
 (x : Value) (m : Nat) (ys : List Value) (hx : Sl w x m ys) (hy : ys.length = m * size) (h1 : ∀ u ∈ ys, u.oneCell' = true) (h63 : n + m ≤ maxLen) (hbytes : (n + m) * bytes ≤ 140737488355328) (hbase : base ≤ w.heap.size) :
 ∃ v' w', (Builtin.append_ #[t, t] ty #[v, x]).run P w = .ok v' w' ∧ w'.ownsRow base e size v' (n + m) (xs ++ ys) ∧ w.grownBy w' v.ownBlock := by
 obtain ⟨A, c, rfl, hc1, hc2, hc3⟩ := hx
 rcases A with _ | ad
 · have hys : ys = [] := Classical.byContradiction fun hne => by
    obtain ⟨b, off, hb, _⟩ := hc3 hne
    cases hb
   subst hys
   have hm : m = 0 := by
    rcases Nat.eq_zero_or_pos m with h | h
    · exact h
    · have := Nat.mul_pos h hsz
      simp at hy
      omega
   subst hm
   refine ⟨v, w, ?_, by simpa using hown, World.grownBy.refl w _⟩
   rcases hown.2 with ⟨rfl, rfl⟩ | ⟨g, cap, cur, rfl, _, _, hnc, _⟩
   · simp [Builtin.append_, run_underlying ht, sizeOf, typeInfo, hi, Builtin.lenOf, Builtin.firstCells]
   · simp [Builtin.append_, run_underlying ht, sizeOf, typeInfo, hi, Builtin.lenOf, Builtin.firstCells, hnc, storeCells]
 · obtain ⟨v', w', hrun, h2, h3, _⟩ := run_append_own (P := P) w base t ty e i z size bytes ht hi hz hsize hby hzs hsz v n xs hown ad m c ys hy (fun j u hu => by
    have hne : ys ≠ [] := by rintro rfl; simp at hu
    obtain ⟨b, off, hb, hcell⟩ := hc3 hne
    injection hb with hb
    subst hb
    have := hcell j u hu
    unfold Addr.add
    split
    · rename_i h0; subst h0; simpa using this
    · exact this) h1 h63 hbytes hbase
   exact ⟨v', w', hrun, h2, h3⟩
theorem wp_append_sl {P : Program} {o : Oper} {a : Act} {K : Act → World → Prop} {Q : Exit → Act → World → Prop} (w : World) (s x : Operand) (t : TypeId)
 (ho : o.op = .call { callee := .builtin .append, args := #[s, x], argTypes := #[t, t] })
 (base : Nat) (e : TypeId) (i : TypeInfo) (z : Value) (size bytes : Nat) (ht : P.underlying t = some (.slice e)) (hi : P.info? e = some i) (hz : i.zero = some z)
 (hsize : i.size = size) (hby : i.bytes = bytes) (hzs : z.cells.size = size) (hsz : 0 < size) (v : Value) (n : Nat) (xs : List Value) (hs : a.eval s = v) (hown : w.ownsRow base e size v n xs)
 (xv : Value) (m : Nat) (ys : List Value) (hev : a.eval x = xv) (hx : Sl w xv m ys) (hy : ys.length = m * size) (h1 : ∀ u ∈ ys, u.oneCell' = true) (h63 : n + m ≤ maxLen) (hbytes : (n + m) * bytes ≤ 140737488355328) (hbase : base ≤ w.heap.size)
 (h : ∀ v' w', w'.ownsRow base e size v' (n + m) (xs ++ ys) → w.grownBy w' v.ownBlock → K (a.put o.dst v') w') : o.wp P a w K Q := by
 obtain ⟨v', w', hr, h2, h3⟩ := run_append_sl (P := P) w base t o.type e i z size bytes ht hi hz hsize hby hzs hsz v n xs hown xv m ys hx hy h1 h63 hbytes hbase
 unfold Oper.wp execOp
 simp only [ho, resolve, invoke, builtin, Sem.run_bind, Sem.run_pure, Result.andThen_ok, List.map_toArray, List.map_cons, List.map_nil, hs, hev, hr]
 exact h v' w' h2 h3
end Go.Proofs.YthlfljmfggmfdaaGreatDoor
namespace Go.Proofs.YthlfljmfggmfdaaGreatDoor
structure Nd where
 kind : Int
 key : ByteArray
 n : Int
 s : ByteArray
 size : Int
deriving DecidableEq
structure Hd where
 kind : Int
 key : ByteArray
 n : Int
 s : ByteArray
deriving DecidableEq
inductive J where
 | mk (h : Hd) (l : List J)
theorem J.both {P : J → Prop} {Q : List J → Prop} (mk : ∀ h l, Q l → P (.mk h l)) (nil : Q []) (cons : ∀ j l, P j → Q l → Q (j :: l)) : (∀ j, P j) ∧ ∀ l, Q l :=
 ⟨fun j => J.rec (motive_1 := P) (motive_2 := Q) mk nil cons j, fun l => J.rec_1 (motive_1 := P) (motive_2 := Q) mk nil cons l⟩
def J.hd : J → Hd
 | .mk h _ => h
def J.key (j : J) : ByteArray := j.hd.key
def J.kids : J → List J
 | .mk _ l => l
mutual
def J.flat : J → List Nd
 | .mk h l => ⟨h.kind, h.key, h.n, h.s, (J.flats l).length + 1⟩ :: J.flats l
def J.flats : List J → List Nd
 | [] => []
 | j :: l => J.flat j ++ J.flats l
end
mutual
def J.deep : J → Nat
 | .mk _ l => J.deeps l + 1
def J.deeps : List J → Nat
 | [] => 0
 | j :: l => max (J.deep j) (J.deeps l)
end
def J.size (j : J) : Nat := j.flat.length
def none_ : ByteArray := ⟨#[]⟩
def leafOk (V : ByteArray → Bool) (h : Hd) : Prop :=
 ((h.kind = 1 ∨ h.kind = 2 ∨ h.kind = 3) ∧ h.n = 0 ∧ h.s = none_) ∨ (h.kind = 4 ∧ h.s = none_) ∨ (h.kind = 5 ∧ h.n = 0 ∧ V h.s = true)
def keysOk (V : ByteArray → Bool) : List ByteArray → List ByteArray → Prop
 | _, [] => True
 | had, k :: ks => V k = true ∧ k ∉ had ∧ keysOk V (had ++ [k]) ks
def plainHd (h : Hd) : Prop := h.n = 0 ∧ h.s = none_
mutual
def J.Ok (V : ByteArray → Bool) : J → Prop
 | .mk h l => (leafOk V h ∧ l = []) ∨ (h.kind = 6 ∧ plainHd h ∧ J.Oks V l ∧ ∀ j ∈ l, j.key = none_) ∨ (h.kind = 7 ∧ plainHd h ∧ J.Oks V l ∧ keysOk V [] (l.map J.key))
def J.Oks (V : ByteArray → Bool) : List J → Prop
 | [] => True
 | j :: l => J.Ok V j ∧ J.Oks V l
end
section
theorem flat_pos (j : J) : 0 < j.flat.length := by cases j; simp [J.flat]
theorem flats_cons (j : J) (l : List J) : J.flats (j :: l) = j.flat ++ J.flats l := by simp [J.flats]
theorem flats_append (l m : List J) : J.flats (l ++ m) = J.flats l ++ J.flats m := by
 induction l with
 | nil => simp [J.flats]
 | cons j l ih => simp [J.flats, ih]
theorem flats_one (j : J) : J.flats [j] = j.flat := by simp [J.flats]
theorem flat_mk (h : Hd) (l : List J) : J.flat (.mk h l) = ⟨h.kind, h.key, h.n, h.s, (J.flats l).length + 1⟩ :: J.flats l := by simp [J.flat]
theorem flat_head (j : J) : ∃ r, j.flat = ⟨j.hd.kind, j.hd.key, j.hd.n, j.hd.s, j.flat.length⟩ :: r := by
 cases j with
 | mk h l => exact ⟨J.flats l, by simp [J.flat, J.hd]⟩
theorem oks_mem {V : ByteArray → Bool} {l : List J} (h : J.Oks V l) : ∀ j ∈ l, J.Ok V j := by
 induction l with
 | nil => simp
 | cons j l ih =>
   intro x hx
   simp only [J.Oks] at h
   rcases List.mem_cons.1 hx with rfl | hx
   · exact h.1
   · exact ih h.2 x hx
theorem deeps_append (l m : List J) : J.deeps (l ++ m) = max (J.deeps l) (J.deeps m) := by
 induction l with
 | nil => simp [J.deeps]
 | cons j l ih => simp [J.deeps, ih, Nat.max_assoc]
theorem deep_pos (j : J) : 0 < j.deep := by cases j; simp [J.deep]
theorem deep_le_deeps {l : List J} {j : J} (h : j ∈ l) : j.deep ≤ J.deeps l := by
 induction l with
 | nil => simp at h
 | cons x l ih =>
   simp only [J.deeps]
   rcases List.mem_cons.1 h with rfl | h
   · omega
   · have := ih h; omega
theorem unique_both : (∀ j : J, ∀ (j' : J) (r r' : List Nd), j.flat ++ r = j'.flat ++ r' → j = j' ∧ r = r') ∧ ∀ l : List J, ∀ l' : List J, J.flats l = J.flats l' → l = l' := by
 refine J.both ?_ ?_ ?_
 · intro h l ih j' r r' e
   cases j' with
   | mk h' l' =>
     simp only [flat_mk, List.cons_append, List.cons.injEq, Nd.mk.injEq] at e
     obtain ⟨⟨e1, e2, e3, e4, e5⟩, e6⟩ := e
     have hl : (J.flats l).length = (J.flats l').length := by omega
     obtain ⟨e7, e8⟩ := List.append_inj e6 hl
     have e9 := ih l' e7
     subst e9
     refine ⟨?_, e8⟩
     cases h; cases h'
     simp_all
 · intro l' e
   cases l' with
   | nil => rfl
   | cons j l' =>
     have h1 := flat_pos j
     have h2 := congrArg List.length e
     rw [flats_cons, List.length_append] at h2
     simp only [J.flats, List.length_nil] at h2
     omega
 · intro j l hj hl l' e
   cases l' with
   | nil =>
     have h1 := flat_pos j
     have h2 := congrArg List.length e
     rw [flats_cons, List.length_append] at h2
     simp only [J.flats, List.length_nil] at h2
     omega
   | cons j' l' =>
     rw [flats_cons, flats_cons] at e
     obtain ⟨e1, e2⟩ := hj j' _ _ e
     rw [e1, hl l' e2]
theorem flat_unique {j j' : J} {r r' : List Nd} (h : j.flat ++ r = j'.flat ++ r') : j = j' ∧ r = r' := unique_both.1 j j' r r' h
theorem flat_inj {j j' : J} (h : j.flat = j'.flat) : j = j' := (flat_unique (r := []) (r' := []) (by simpa using h)).1
end
structure Hold where
 obj : Bool
 fin : Nat
 had : List ByteArray
def popAll (i : Nat) : List Hold → List Hold
 | [] => []
 | h :: S => if h.fin = i then popAll i S else h :: S
def fitsB (V : ByteArray → Bool) (x : Nd) : Bool :=
 if x.kind = 4 then decide (x.size = 1) && decide (x.s = none_)
 else if x.kind = 5 then decide (x.size = 1) && decide (x.n = 0) && V x.s
 else if x.kind = 6 ∨ x.kind = 7 then decide (x.n = 0) && decide (x.s = none_)
 else decide (1 ≤ x.kind) && decide (x.kind < 4) && (decide (x.n = 0) && decide (x.s = none_) && decide (x.size = 1))
def hasKey (l : List ByteArray) (k : ByteArray) : Bool := l.any fun x => decide (x = k)
theorem hasKey_iff {l : List ByteArray} {k : ByteArray} : hasKey l k = true ↔ k ∈ l := by simp [hasKey]
theorem hasKey_not {l : List ByteArray} {k : ByteArray} : hasKey l k = false ↔ k ∉ l := by rw [← hasKey_iff]; simp
def keyB (V : ByteArray → Bool) (h : Hold) (k : ByteArray) : Bool := if h.obj then V k && !hasKey h.had k else decide (k = none_)
def Hold.add (h : Hold) (k : ByteArray) : Hold := if h.obj then ⟨h.obj, h.fin, h.had ++ [k]⟩ else h
def nodeB (V : ByteArray → Bool) (h : Hold) (i : Nat) (x : Nd) : Bool := decide (1 ≤ x.size) && decide (x.size ≤ (h.fin : Int) - i) && fitsB V x && keyB V h x.key
def pushed (h : Hold) (S : List Hold) (i : Nat) (x : Nd) : List Hold := if 6 ≤ x.kind then ⟨decide (x.kind = 7), i + x.size.toNat, []⟩ :: h.add x.key :: S else h.add x.key :: S
def lookGo (V : ByteArray → Bool) : List Nd → List Hold → Nat → Nat → Option Nat
 | [], _, _, d => some d
 | x :: r, S, i, d => match popAll i S with
   | [] => none
   | h :: S' => if nodeB V h i x then lookGo V r (pushed h S' i x) (i + 1) (max d (S'.length + 1)) else none
def lookOf (V : ByteArray → Bool) (t : List Nd) : Option Nat :=
 match t with
 | [] => none
 | x :: _ => if x.key = none_ ∧ x.size = t.length then lookGo V t [⟨false, t.length, []⟩] 0 0 else none
section
variable {V : ByteArray → Bool}
theorem add_fin (h : Hold) (k : ByteArray) : (h.add k).fin = h.fin := by unfold Hold.add; split <;> rfl
def Hold.adds (h : Hold) : List ByteArray → Hold
 | [] => h
 | k :: ks => (h.add k).adds ks
theorem adds_fin (h : Hold) (ks : List ByteArray) : (h.adds ks).fin = h.fin := by
 induction ks generalizing h with
 | nil => rfl
 | cons k ks ih => rw [Hold.adds, ih, add_fin]
def takes (V : ByteArray → Bool) (h : Hold) (ks : List ByteArray) : Prop := if h.obj then keysOk V h.had ks else ∀ k ∈ ks, k = none_
theorem takes_nil (h : Hold) : takes V h [] := by unfold takes; split <;> simp [keysOk]
theorem takes_cons (h : Hold) (k : ByteArray) (ks : List ByteArray) : takes V h (k :: ks) ↔ keyB V h k = true ∧ takes V (h.add k) ks := by
 unfold takes keyB Hold.add
 by_cases ho : h.obj
 · simp [ho, keysOk, and_assoc, hasKey_not]
 · simp [ho]
theorem popAll_top {i : Nat} {h : Hold} {S : List Hold} (hi : i < h.fin) : popAll i (h :: S) = h :: S := by
 rw [popAll, if_neg (by omega)]
theorem popAll_fin {i : Nat} {h : Hold} {S : List Hold} (hi : h.fin = i) : popAll i (h :: S) = popAll i S := by
 rw [popAll, if_pos hi]
theorem fits_leaf {h : Hd} : leafOk V h ↔ fitsB V ⟨h.kind, h.key, h.n, h.s, 1⟩ = true ∧ h.kind < 6 := by
 unfold leafOk fitsB
 simp only
 constructor
 · rintro (⟨hk, h1, h2⟩ | ⟨hk, h1⟩ | ⟨hk, h1, h2⟩)
   · rcases hk with hk | hk | hk <;> simp [hk, h1, h2]
   · simp [hk, h1]
   · simp [hk, h1, h2]
 · rintro ⟨h1, h2⟩
   split at h1
   · rename_i hk; simp at h1; exact .inr (.inl ⟨hk, h1⟩)
   · split at h1
     · rename_i hk; simp at h1; exact .inr (.inr ⟨hk, h1.1, h1.2⟩)
     · split at h1
       · omega
       · simp at h1
         exact .inl ⟨by omega, h1.2.1, h1.2.2⟩
theorem fits_size {x : Nd} (h : fitsB V x = true) (hk : x.kind < 6) : x.size = 1 := by
 unfold fitsB at h
 split at h
 · simp at h; exact h.1
 · split at h
   · simp at h; exact h.1.1
   · split at h
     · omega
     · simp at h; exact h.2.2
theorem fits_kind {x : Nd} (h : fitsB V x = true) (hk : 6 ≤ x.kind) : (x.kind = 6 ∨ x.kind = 7) ∧ x.n = 0 ∧ x.s = none_ := by
 unfold fitsB at h
 rw [if_neg (by omega), if_neg (by omega)] at h
 split at h
 · simp at h; exact ⟨by assumption, h⟩
 · simp at h; omega
theorem fits_holder {x : Nd} (hk : x.kind = 6 ∨ x.kind = 7) (h1 : x.n = 0) (h2 : x.s = none_) : fitsB V x = true := by
 unfold fitsB
 rw [if_neg (by omega), if_neg (by omega), if_pos hk]
 simp [h1, h2]
theorem look_both : (∀ j : J, j.Ok V → ∀ (S0 : List Hold) (i d : Nat) (h : Hold) (S : List Hold) (r : List Nd), popAll i S0 = h :: S → i + j.flat.length ≤ h.fin → S.length ≤ d → keyB V h j.key = true →
 ∃ S1, popAll (i + j.flat.length) S1 = popAll (i + j.flat.length) (h.add j.key :: S) ∧ lookGo V (j.flat ++ r) S0 i d = lookGo V r S1 (i + j.flat.length) (max d (S.length + j.deep))) ∧
 ∀ l : List J, J.Oks V l → ∀ (S0 : List Hold) (i d : Nat) (h : Hold) (S : List Hold) (r : List Nd), popAll i S0 = popAll i (h :: S) → i + (J.flats l).length ≤ h.fin → S.length ≤ d → takes V h (l.map J.key) →
  ∃ S1, popAll (i + (J.flats l).length) S1 = popAll (i + (J.flats l).length) (h.adds (l.map J.key) :: S) ∧ lookGo V (J.flats l ++ r) S0 i d = lookGo V r S1 (i + (J.flats l).length) (max d (S.length + J.deeps l)) := by
 refine J.both ?_ ?_ ?_
 · intro hd l ih hok S0 i d h S r hp hfin hd' hkey
   rw [flat_mk] at *
   simp only [List.length_cons] at *
   rw [List.cons_append, lookGo, hp]
   simp only
   simp only [J.Ok] at hok
   rcases hok with ⟨hleaf, rfl⟩ | ⟨hk, hpl, hoks, hkids⟩ | ⟨hk, hpl, hoks, hkids⟩
   · obtain ⟨hf, hlt⟩ := fits_leaf.1 hleaf
     have hn : nodeB V h i ⟨hd.kind, hd.key, hd.n, hd.s, ((J.flats []).length : Int) + 1⟩ = true := by
      unfold nodeB
      have e : ((J.flats []).length : Int) + 1 = 1 := by simp [J.flats]
      rw [e, hf]
      have : keyB V h hd.key = true := hkey
      simp [this]
      simp [J.flats] at hfin
      omega
     rw [if_pos hn]
     refine ⟨h.add hd.key :: S, by simp [J.key, J.hd], ?_⟩
     unfold pushed
     rw [if_neg (show ¬ 6 ≤ hd.kind by omega)]
     simp [J.flats, J.deep, J.deeps]
   · have hn : nodeB V h i ⟨hd.kind, hd.key, hd.n, hd.s, ((J.flats l).length : Int) + 1⟩ = true := by
      unfold nodeB
      rw [fits_holder (.inl hk) hpl.1 hpl.2]
      have : keyB V h hd.key = true := hkey
      simp [this]
      omega
     rw [if_pos hn]
     unfold pushed
     rw [if_pos (show 6 ≤ hd.kind by omega)]
     obtain ⟨S1, h1, h2⟩ := ih hoks (⟨decide (hd.kind = 7), i + (((J.flats l).length : Int) + 1).toNat, []⟩ :: h.add hd.key :: S) (i + 1) (max d (S.length + 1)) ⟨decide (hd.kind = 7), i + (((J.flats l).length : Int) + 1).toNat, []⟩ (h.add hd.key :: S) r rfl (by simp only; omega) (by simp; omega) (by
      unfold takes
      simp only [hk]
      simp
      exact hkids)
     refine ⟨S1, ?_, ?_⟩
     · rw [show i + ((J.flats l).length + 1) = i + 1 + (J.flats l).length by omega, h1, popAll_fin (by rw [adds_fin]; simp only; omega)]
       rfl
     · rw [h2, show i + ((J.flats l).length + 1) = i + 1 + (J.flats l).length by omega]
       congr 1
       simp only [List.length_cons, J.deep]
       omega
   · have hn : nodeB V h i ⟨hd.kind, hd.key, hd.n, hd.s, ((J.flats l).length : Int) + 1⟩ = true := by
      unfold nodeB
      rw [fits_holder (.inr hk) hpl.1 hpl.2]
      have : keyB V h hd.key = true := hkey
      simp [this]
      omega
     rw [if_pos hn]
     unfold pushed
     rw [if_pos (show 6 ≤ hd.kind by omega)]
     obtain ⟨S1, h1, h2⟩ := ih hoks (⟨decide (hd.kind = 7), i + (((J.flats l).length : Int) + 1).toNat, []⟩ :: h.add hd.key :: S) (i + 1) (max d (S.length + 1)) ⟨decide (hd.kind = 7), i + (((J.flats l).length : Int) + 1).toNat, []⟩ (h.add hd.key :: S) r rfl (by simp only; omega) (by simp; omega) (by
      unfold takes
      simp only [hk]
      simp
      exact hkids)
     refine ⟨S1, ?_, ?_⟩
     · rw [show i + ((J.flats l).length + 1) = i + 1 + (J.flats l).length by omega, h1, popAll_fin (by rw [adds_fin]; simp only; omega)]
       rfl
     · rw [h2, show i + ((J.flats l).length + 1) = i + 1 + (J.flats l).length by omega]
       congr 1
       simp only [List.length_cons, J.deep]
       omega
 · intro _ S0 i d h S r hp _ hd' _
   refine ⟨S0, by simpa [J.flats, Hold.adds] using hp, ?_⟩
   simp only [J.flats, List.nil_append, List.length_nil, J.deeps, Nat.add_zero]
   rw [Nat.max_eq_left hd']
 · intro j l hj hl hoks S0 i d h S r hp hfin hd' hkeys
   simp only [J.Oks] at hoks
   rw [List.map_cons, takes_cons] at hkeys
   rw [flats_cons, List.length_append] at *
   have hpos := flat_pos j
   rw [popAll_top (by omega)] at hp
   obtain ⟨S1, h1, h2⟩ := hj hoks.1 S0 i d h S (J.flats l ++ r) hp (by omega) hd' hkeys.1
   obtain ⟨S2, h3, h4⟩ := hl hoks.2 S1 (i + j.flat.length) (max d (S.length + j.deep)) (h.add j.key) S r h1 (by rw [add_fin]; omega) (by omega) hkeys.2
   refine ⟨S2, ?_, ?_⟩
   · rw [← Nat.add_assoc, h3]
     rfl
   · rw [List.append_assoc, h2, h4, Nat.add_assoc]
     congr 1
     simp only [J.deeps]
     omega
theorem look_back : ∀ (N : Nat) (t : List Nd) (S0 : List Hold) (i d : Nat) (h : Hold) (S : List Hold) (d' : Nat), h.fin - i ≤ N → i ≤ h.fin → h.fin - i ≤ t.length → popAll i S0 = popAll i (h :: S) → S.length ≤ d → lookGo V t S0 i d = some d' →
 ∃ l : List J, J.Oks V l ∧ takes V h (l.map J.key) ∧ J.flats l = t.take (h.fin - i) := by
 intro N
 induction N with
 | zero =>
   intro t S0 i d h S d' h1 h2 h3 _ _ _
   exact ⟨[], by simp [J.Oks], takes_nil h, by rw [show h.fin - i = 0 by omega]; simp [J.flats]⟩
 | succ N ih =>
   intro t S0 i d h S d' h1 h2 h3 hp hd hgo
   by_cases he : h.fin = i
   · exact ⟨[], by simp [J.Oks], takes_nil h, by rw [show h.fin - i = 0 by omega]; simp [J.flats]⟩
   · cases t with
     | nil => simp at h3; omega
     | cons x r =>
       rw [popAll_top (by omega)] at hp
       rw [lookGo, hp] at hgo
       simp only at hgo
       split at hgo
       · rename_i hn
         unfold nodeB at hn
         simp only [Bool.and_eq_true, decide_eq_true_eq] at hn
         obtain ⟨⟨⟨hs1, hs2⟩, hf⟩, hk⟩ := hn
         unfold pushed at hgo
         by_cases hkind : 6 ≤ x.kind
         · rw [if_pos hkind] at hgo
           obtain ⟨hkk, hx1, hx2⟩ := fits_kind hf hkind
           obtain ⟨m, hm⟩ : ∃ m : Nat, x.size = (m : Int) + 1 := ⟨x.size.toNat - 1, by omega⟩
           have hr3 : h.fin - i ≤ r.length + 1 := h3
           obtain ⟨l1, a1, a2, a3⟩ := ih r _ (i + 1) (max d (S.length + 1)) ⟨decide (x.kind = 7), i + x.size.toNat, []⟩ (h.add x.key :: S) d' (by simp only; omega) (by simp only; omega) (by simp only; omega) rfl (by simp; omega) hgo
           simp only at a3
           rw [show i + x.size.toNat - (i + 1) = m by omega] at a3
           have hlen : (J.flats l1).length = m := by rw [a3]; simp; omega
           have hok : J.Ok V (.mk ⟨x.kind, x.key, x.n, x.s⟩ l1) := by
            simp only [J.Ok]
            rcases hkk with hkk | hkk
            · refine .inr (.inl ⟨hkk, ⟨hx1, hx2⟩, a1, fun j hj => ?_⟩)
              unfold takes at a2
              simp [hkk] at a2
              exact a2 j hj
            · refine .inr (.inr ⟨hkk, ⟨hx1, hx2⟩, a1, ?_⟩)
              unfold takes at a2
              simp [hkk] at a2
              exact a2
           have hflat : J.flat (.mk ⟨x.kind, x.key, x.n, x.s⟩ l1) = x :: r.take m := by
            rw [flat_mk, a3]
            congr 1
            rw [← a3, hlen]
            cases x
            simp_all
           obtain ⟨S1, b1, b2⟩ := look_both.2 l1 a1 (⟨decide (x.kind = 7), i + x.size.toNat, []⟩ :: h.add x.key :: S) (i + 1) (max d (S.length + 1)) ⟨decide (x.kind = 7), i + x.size.toNat, []⟩ (h.add x.key :: S) (r.drop m) rfl (by simp only; omega) (by simp; omega) a2
           rw [a3, List.take_append_drop, ← a3, hlen] at b2
           rw [b2] at hgo
           rw [hlen, popAll_fin (h := Hold.adds _ _) (by rw [adds_fin]; simp only; omega)] at b1
           obtain ⟨l2, c1, c2, c3⟩ := ih (r.drop m) S1 (i + 1 + m) _ (h.add x.key) S d' (by rw [add_fin]; omega) (by rw [add_fin]; omega) (by rw [add_fin, List.length_drop]; omega) b1 (by omega) hgo
           rw [add_fin] at c3
           refine ⟨.mk ⟨x.kind, x.key, x.n, x.s⟩ l1 :: l2, by simp only [J.Oks]; exact ⟨hok, c1⟩, ?_, ?_⟩
           · rw [List.map_cons, takes_cons]
             exact ⟨hk, c2⟩
           · rw [flats_cons, hflat, c3]
             obtain ⟨q, hq⟩ : ∃ q, h.fin - i = m + 1 + q := ⟨h.fin - i - (m + 1), by omega⟩
             rw [hq, show h.fin - (i + 1 + m) = q by omega, show m + 1 + q = (m + q) + 1 by omega, List.take_succ_cons, List.cons_append, List.take_add]
         · rw [if_neg hkind] at hgo
           have hs : x.size = 1 := fits_size hf (by omega)
           obtain ⟨l2, c1, c2, c3⟩ := ih r _ (i + 1) _ (h.add x.key) S d' (by rw [add_fin]; omega) (by rw [add_fin]; omega) (by rw [add_fin]; simp at h3; omega) rfl (by omega) hgo
           rw [add_fin] at c3
           have hok : J.Ok V (.mk ⟨x.kind, x.key, x.n, x.s⟩ []) := by
            simp only [J.Ok]
            refine .inl ⟨fits_leaf.2 ⟨?_, by simp only; omega⟩, by trivial⟩
            cases x
            simp_all
           have hflat : J.flat (.mk ⟨x.kind, x.key, x.n, x.s⟩ []) = [x] := by
            rw [flat_mk]
            cases x
            simp_all [J.flats]
           refine ⟨.mk ⟨x.kind, x.key, x.n, x.s⟩ [] :: l2, by simp only [J.Oks]; exact ⟨hok, c1⟩, ?_, ?_⟩
           · rw [List.map_cons, takes_cons]
             exact ⟨hk, c2⟩
           · rw [flats_cons, hflat, c3]
             obtain ⟨q, hq⟩ : ∃ q, h.fin - i = q + 1 := ⟨h.fin - i - 1, by omega⟩
             rw [hq, show h.fin - (i + 1) = q by omega, List.take_succ_cons]
             rfl
       · cases hgo
def Tape (V : ByteArray → Bool) (j : J) (t : List Nd) : Prop := J.Ok V j ∧ j.key = none_ ∧ t = j.flat
theorem look_yes {j : J} {t : List Nd} (h : Tape V j t) : lookOf V t = some j.deep := by
 obtain ⟨h1, h2, rfl⟩ := h
 obtain ⟨S1, a1, a2⟩ := look_both.1 j h1 [⟨false, j.flat.length, []⟩] 0 0 ⟨false, j.flat.length, []⟩ [] [] (popAll_top (flat_pos j)) (by simp) (by simp) (by simp [keyB, h2])
 obtain ⟨r, hr⟩ := flat_head j
 unfold lookOf
 rw [hr]
 simp only
 rw [← hr, if_pos ⟨h2, rfl⟩]
 rw [List.append_nil] at a2
 rw [a2, lookGo]
 simp
theorem look_no {t : List Nd} {d : Nat} (h : lookOf V t = some d) : ∃ j, Tape V j t := by
 unfold lookOf at h
 split at h
 · cases h
 · rename_i x r
   split at h
   · rename_i hx
     obtain ⟨l, h1, h2, h3⟩ := look_back _ _ _ 0 0 ⟨false, (x :: r).length, []⟩ [] d (Nat.le_refl _) (Nat.zero_le _) (by simp) rfl (by simp) h
     simp only [Nat.sub_zero, List.take_length] at h3
     cases l with
     | nil => simp [J.flats] at h3
     | cons j l =>
       have hl : l = [] := by
        rw [flats_cons] at h3
        obtain ⟨q, hq⟩ := flat_head j
        rw [hq, List.cons_append, List.cons.injEq] at h3
        have e := hx.2
        rw [← h3.1] at e
        simp only at e
        have e2 := congrArg List.length h3.2
        have e3 := congrArg List.length hq
        simp at e e2 e3
        cases l with
        | nil => rfl
        | cons j' l' =>
          have := flat_pos j'
          rw [flats_cons] at e2
          simp at e2
          omega
       subst hl
       rw [flats_one] at h3
       simp only [J.Oks, and_true] at h1
       refine ⟨j, h1, ?_, h3.symm⟩
       unfold takes at h2
       simpa using h2
   · cases h
theorem look_none {t : List Nd} (h : ∀ j, ¬ Tape V j t) : lookOf V t = none := by
 cases e : lookOf V t with
 | none => rfl
 | some d =>
   obtain ⟨j, hj⟩ := look_no e
   exact absurd hj (h j)
end
end Go.Proofs.YthlfljmfggmfdaaGreatDoor
namespace Go.Proofs.YthlfljmfggmfdaaGreatDoor
open Go.RowKit
def Nd.vals (x : Nd) : List Value := [.int .i64 x.kind, .string x.key, .int .i64 x.n, .string x.s, .int .i64 x.size]
def ndVals (l : List Nd) : List Value := l.flatMap Nd.vals
def Nd.agg (x : Nd) : Value := .agg #[.int .i64 x.kind, .string x.key, .int .i64 x.n, .string x.s, .int .i64 x.size]
theorem ndVals_length (r : List Nd) : (ndVals r).length = r.length * 5 := by
 induction r with
 | nil => rfl
 | cons c r ih => simp [ndVals, Nd.vals] at *; omega
theorem ndVals_ne {r : List Nd} (h : 0 < r.length) : ndVals r ≠ [] := by
 intro e
 have := ndVals_length r
 rw [e] at this
 simp at this
 omega
theorem ndVals_get (r : List Nd) (i k : Nat) (hk : k < 5) (hi : i < r.length) : (ndVals r)[i * 5 + k]? = (r[i]).vals[k]? := by
 induction r generalizing i with
 | nil => simp at hi
 | cons c r ih =>
   have hc : (Nd.vals c).length = 5 := rfl
   cases i with
   | zero => simp [ndVals, List.flatMap_cons, List.getElem?_append_left, hc, hk]
   | succ i =>
     have h := ih i (by simpa using hi)
     simp only [ndVals, List.flatMap_cons] at *
     rw [List.getElem?_append_right (by omega)]
     simp only [List.getElem_cons_succ]
     rw [← h]
     congr 1
     omega
theorem ndVals_append (a b : List Nd) : ndVals (a ++ b) = ndVals a ++ ndVals b := by simp [ndVals]
theorem ndVals_one (c : Nd) : ndVals [c] = c.vals := by simp [ndVals]
theorem ndVals_cell (r : List Nd) : ∀ u ∈ ndVals r, u.oneCell' = true := by
 intro u hu
 simp only [ndVals, List.mem_flatMap, Nd.vals, List.mem_cons, List.not_mem_nil, or_false] at hu
 obtain ⟨c, _, rfl | rfl | rfl | rfl | rfl⟩ := hu <;> rfl
theorem ndVals_take (r : List Nd) (m : Nat) : ndVals (r.take m) = (ndVals r).take (m * 5) := by
 rcases Nat.lt_or_ge r.length m with h | h
 · rw [List.take_of_length_le (by omega), List.take_of_length_le (by rw [ndVals_length]; omega)]
 · have e : ndVals r = ndVals (r.take m) ++ ndVals (r.drop m) := by rw [← ndVals_append, List.take_append_drop]
   rw [e, List.take_left' (by rw [ndVals_length, List.length_take]; omega)]
theorem ndVals_drop (r : List Nd) (m : Nat) (h : m ≤ r.length) : ndVals (r.drop m) = (ndVals r).drop (m * 5) := by
 have e : ndVals r = ndVals (r.take m) ++ ndVals (r.drop m) := by rw [← ndVals_append, List.take_append_drop]
 rw [e, List.drop_left' (by rw [ndVals_length, List.length_take]; omega)]
abbrev NodesIs (w : World) (v : Value) (l : List Nd) : Prop := Sl w v l.length (ndVals l)
abbrev NodesT (lo : Nat) (w : World) (v : Value) (l : List Nd) : Prop := SlT 36 lo w v l.length (ndVals l)
abbrev NodesOwn (base : Nat) (w : World) (v : Value) (l : List Nd) : Prop := w.ownsRow base 36 5 v l.length (ndVals l)
theorem Sl.nodes {w : World} {v : Value} {l : List Nd} (h : NodesIs w v l) : ∃ A cap, v = .slice A l.length cap ∧ l.length ≤ cap ∧ cap ≤ maxLen ∧
 (l.length = 0 ∨ ∃ b off, A = some ⟨b, off, none⟩ ∧ ∀ i, (hi : i < l.length) → w.cell? ⟨b, off + i * 5, none⟩ = some (.int .i64 l[i].kind) ∧ w.cell? ⟨b, off + i * 5 + 1, none⟩ = some (.string l[i].key) ∧ w.cell? ⟨b, off + i * 5 + 2, none⟩ = some (.int .i64 l[i].n) ∧
   w.cell? ⟨b, off + i * 5 + 3, none⟩ = some (.string l[i].s) ∧ w.cell? ⟨b, off + i * 5 + 4, none⟩ = some (.int .i64 l[i].size)) := by
 obtain ⟨A, cap, rfl, h1, h2, h3⟩ := h
 refine ⟨A, cap, rfl, h1, h2, ?_⟩
 rcases Nat.eq_zero_or_pos l.length with h0 | h0
 · exact .inl h0
 · obtain ⟨b, off, rfl, hc⟩ := h3 (ndVals_ne h0)
   refine .inr ⟨b, off, rfl, fun i hi => ⟨?_, ?_, ?_, ?_, ?_⟩⟩
   · have := hc (i * 5 + 0) _ (ndVals_get l i 0 (by omega) hi); simpa using this
   · have := hc (i * 5 + 1) _ (ndVals_get l i 1 (by omega) hi); simpa [Nat.add_assoc] using this
   · have := hc (i * 5 + 2) _ (ndVals_get l i 2 (by omega) hi); simpa [Nat.add_assoc] using this
   · have := hc (i * 5 + 3) _ (ndVals_get l i 3 (by omega) hi); simpa [Nat.add_assoc] using this
   · have := hc (i * 5 + 4) _ (ndVals_get l i 4 (by omega) hi); simpa [Nat.add_assoc] using this
theorem nodeInfo : (Tryz.prog.info? 36).map (fun i => (i.zero, i.size, i.bytes)) = some (some (.agg #[.int .i64 0, .string ⟨#[]⟩, .int .i64 0, .string ⟨#[]⟩, .int .i64 0]), 5, 56) := by kernel_rfl
theorem nodeGuard : Tryz.prog.eqGuardType Tryz.prog.depth 36 = false := by kernel_rfl
theorem nodeStood : Tryz.prog.stoodInHeld 36 = false := by kernel_rfl
theorem nodeFields : Tryz.prog.underlying 36 = some (.struct (Tryz.prog.fieldsOf 36)) := by kernel_rfl
theorem bytes_ext {a b : ByteArray} (h : a.toList = b.toList) : a = b := by
 rw [ByteArray.toList_eq, ByteArray.toList_eq] at h
 cases a; cases b
 simp only [ByteArray.mk.injEq]
 exact Array.toList_inj.1 h
def sameNd (a b : Nd) : Bool := decide (a = b)
theorem eql_node (a b : Nd) (w : World) : (binOp .eql 36 (.agg #[.int .i64 a.kind, .string a.key, .int .i64 a.n, .string a.s, .int .i64 a.size]) (.agg #[.int .i64 b.kind, .string b.key, .int .i64 b.n, .string b.s, .int .i64 b.size])).run Tryz.prog w = .ok (.bool (sameNd a b)) w := by
 rw [run_eql_struct, run_equalIn_agg _ _ _ _ _ nodeFields nodeStood]
 simp only [Program.fieldsOf, Tryz.underlying36]
 obtain ⟨a1, a2, a3, a4, a5⟩ := a
 obtain ⟨b1, b2, b3, b4, b5⟩ := b
 simp [go_sem, sameNd]
 by_cases h1 : a1 = b1
 · by_cases h2 : a2 = b2
   · by_cases h3 : a3 = b3
     · by_cases h4 : a4 = b4
       · by_cases h5 : a5 = b5
         · subst h4; subst h2; simp [h1, h3, h5]
         · simp [h1, h2, h3, h4, h5]
       · have h6 : ¬ a4.toList = b4.toList := fun h => h4 (bytes_ext h)
         simp [h1, h2, h3, h4, h6]
     · simp [h1, h2, h3]
   · have h6 : ¬ a2.toList = b2.toList := fun h => h2 (bytes_ext h)
     simp [h1, h2, h6]
 · simp [h1]
theorem neq_node (a b : Nd) (w : World) : (binOp .neq 36 (.agg #[.int .i64 a.kind, .string a.key, .int .i64 a.n, .string a.s, .int .i64 a.size]) (.agg #[.int .i64 b.kind, .string b.key, .int .i64 b.n, .string b.s, .int .i64 b.size])).run Tryz.prog w = .ok (.bool (!sameNd a b)) w := by
 rw [run_neq_struct, run_equalIn_agg _ _ _ _ _ nodeFields nodeStood]
 simp only [Program.fieldsOf, Tryz.underlying36]
 obtain ⟨a1, a2, a3, a4, a5⟩ := a
 obtain ⟨b1, b2, b3, b4, b5⟩ := b
 simp [go_sem, sameNd]
 by_cases h1 : a1 = b1
 · by_cases h2 : a2 = b2
   · by_cases h3 : a3 = b3
     · by_cases h4 : a4 = b4
       · by_cases h5 : a5 = b5
         · subst h4; subst h2; simp [h1, h3, h5]
         · simp [h1, h2, h3, h4, h5]
       · have h6 : ¬ a4.toList = b4.toList := fun h => h4 (bytes_ext h)
         simp [h1, h2, h3, h4, h6]
     · simp [h1, h2, h3]
   · have h6 : ¬ a2.toList = b2.toList := fun h => h2 (bytes_ext h)
     simp [h1, h2, h6]
 · simp [h1]
end Go.Proofs.YthlfljmfggmfdaaGreatDoor
namespace Go.Proofs.YthlfljmfggmfdaaGreatDoor
open Go.RowKit Go.Maps Go.WideMaps
theorem keyLaw : Keyed Tryz.prog 9 := string_keyed Tryz.underlying9
theorem zeroInt (w : World) : (zeroValue 3).run Tryz.prog w = .ok (.int .i64 0) w := by kernel_rfl
def Keys (w : World) (b : Nat) (had : List ByteArray) : Prop :=
 ∃ D : DataW Unit, w.ownsMap Tryz.prog 9 (plainElem Tryz.prog 3) b had.length D ∧ ∀ s : ByteArray, has D (.string s.data.toList) = hasKey had s
theorem Keys.lt {w : World} {b : Nat} {had : List ByteArray} (h : Keys w b had) : b < w.heap.size := by
 obtain ⟨D, h1, _⟩ := h
 exact h1.lt
theorem Keys.same {w w' : World} {b : Nat} {had : List ByteArray} (h : Keys w b had) (e : w'.heap[b]? = w.heap[b]?) : Keys w' b had := by
 obtain ⟨D, ⟨es, clock, hb, r⟩, h2⟩ := h
 exact ⟨D, ⟨es, clock, e.trans hb, r⟩, h2⟩
theorem Keys.old {w w' : World} {b : Nat} {had : List ByteArray} (h : Keys w b had) (ho : Old w w') : Keys w' b had := h.same (ho.block b h.lt)
theorem Keys.grown {w w' : World} {b : Nat} {had : List ByteArray} {row : Option Nat} (h : Keys w b had) (hg : w.grownBy w' row) (hne : some b ≠ row) : Keys w' b had := h.same (hg.block b h.lt hne)
theorem keys_new (w : World) : Keys (w.alloc (.map #[] 0)) w.heap.size [] :=
 ⟨.map [], World.ownsMap_made _ _ _ _, fun s => by simp [has, hasKey]⟩
theorem keys_put {D : DataW Unit} {had : List ByteArray} {s : ByteArray} {d : DataW Unit} (hm : IsMap D) (h : ∀ t : ByteArray, has D (.string t.data.toList) = hasKey had t) (t : ByteArray) : has (D.put (.string s.data.toList) d) (.string t.data.toList) = hasKey (had ++ [s]) t := by
 by_cases e : t = s
 · subst e
   rw [has_put_same hm (show WideAt.IsKeyLit (.string t.data.toList) from trivial), eq_comm, hasKey_iff]
   simp
 · rw [has_put_other (by
    intro he
    injection he with he
    exact e (by cases t; cases s; simp_all [Array.toList_inj])), h]
   simp [hasKey, Ne.symm e]
section
variable {ops : Array Oper} {rest : List Oper} {o : Oper} {a : Act} {Q : Exit → Act → World → Prop}
theorem wpList_look_keys (w : World) (hg : o.guard = none) (m x : Operand) (t : TypeId) (hop : o.op = Op.lookup t m x true) (ht : Tryz.prog.underlying t = some (.map 9 3))
 (b : Nat) (had : List ByteArray) (hm : a.eval m = .map (some b)) (hk : Keys w b had) (s : ByteArray) (hx : a.eval x = .string s) (hs : s.size ≤ maxLen)
 (hK : ∀ c : Int, wpList Tryz.prog ops Q rest (a.put o.dst (.tuple #[.int .i64 c, .bool (hasKey had s)])) w) : wpList Tryz.prog ops Q (o :: rest) a w := by
 obtain ⟨D, h1, h2⟩ := hk
 refine wpList_lookup_own_ok_int w hg m x t hop 9 3 .i64 keyLaw ht Tryz.underlying3 (zeroInt w) b _ D hm h1 (.string s) (.string s.data.toList) hx (keyOf_string_mk Tryz.underlying9 hs) ?_
 intro c _ _
 rw [h2]
 exact hK c
theorem wpList_look_nil (w : World) (hg : o.guard = none) (m x : Operand) (t : TypeId) (hop : o.op = Op.lookup t m x true) (ht : Tryz.prog.underlying t = some (.map 9 3))
 (hm : a.eval m = .map none) (s : ByteArray) (hx : a.eval x = .string s) (hs : s.size ≤ maxLen)
 (hK : wpList Tryz.prog ops Q rest (a.put o.dst (.tuple #[.int .i64 0, .bool false])) w) : wpList Tryz.prog ops Q (o :: rest) a w := by
 refine wpList_plain hg fun K' hK' => ?_
 have hrun := Maps.look_nil (w := w) true keyLaw ht (zeroInt w) (keyOf_string_mk Tryz.underlying9 hs)
 unfold Oper.wp
 simp [execOp, hop, hm, hx, hrun, Result.andThen]
 exact hK' _ _ hK
theorem wpList_put_keys (w : World) (hg : o.guard = none) (m x v : Operand) (t : TypeId) (hop : o.op = Op.mapUpdate t m x v) (ht : Tryz.prog.underlying t = some (.map 9 3))
 (b : Nat) (had : List ByteArray) (hm : a.eval m = .map (some b)) (hk : Keys w b had) (hn : had.length < maxLen) (s : ByteArray) (hx : a.eval x = .string s) (hs : s.size ≤ maxLen) (n : Int) (hv : a.eval v = .int .i64 n) (hw : (Lit.int .i64 n).wf = true)
 (hK : ∀ w', Keys w' b (had ++ [s]) → w.grownBy w' (some b) → wpList Tryz.prog ops Q rest (a.put o.dst undef) w') : wpList Tryz.prog ops Q (o :: rest) a w := by
 obtain ⟨D, h1, h2⟩ := hk
 refine wpList_mapUpdate_own w hg m x v t hop 9 3 keyLaw ht (plainElem Tryz.prog 3) b _ D hm h1 hn (.string s) (.int .i64 n) (.string s.data.toList) hx hv (keyOf_string_mk Tryz.underlying9 hs) _ [] (plainElem_int Tryz.underlying3 hw) ?_
 intro w' h3 hg'
 exact hK w' ⟨_, by rw [List.length_append]; exact h3, keys_put h1.isMap h2⟩ hg'
end
end Go.Proofs.YthlfljmfggmfdaaGreatDoor
namespace Go.Proofs.YthlfljmfggmfdaaGreatDoor
open Go.RowKit
def Hold.kind (h : Hold) : Int := if h.obj then 7 else 6
def holdVals : List Hold → List Value → List Value
 | h :: hs, m :: ms => .int .i64 h.kind :: .int .i64 h.fin :: m :: holdVals hs ms
 | _, _ => []
theorem holdVals_length : ∀ (hs : List Hold) (ms : List Value), ms.length = hs.length → (holdVals hs ms).length = hs.length * 3
 | [], [], _ => rfl
 | _ :: hs, _ :: ms, h => by simp only [holdVals, List.length_cons]; have := holdVals_length hs ms (by simpa using h); omega
theorem holdVals_append : ∀ (hs : List Hold) (ms : List Value) (hs' : List Hold) (ms' : List Value), ms.length = hs.length → holdVals (hs ++ hs') (ms ++ ms') = holdVals hs ms ++ holdVals hs' ms'
 | [], [], _, _, _ => rfl
 | h :: hs, m :: ms, hs', ms', e => by
   simp only [List.cons_append, holdVals]
   rw [holdVals_append hs ms hs' ms' (by simpa using e)]
theorem holdVals_one (h : Hold) (m : Value) : holdVals [h] [m] = [.int .i64 h.kind, .int .i64 h.fin, m] := rfl
def MapIs (base : Nat) (w : World) (h : Hold) (m : Value) : Prop := (m = .map none ∧ h.obj = false) ∨ ∃ b, m = .map (some b) ∧ base ≤ b ∧ Keys w b h.had
def Apart (ms : List Value) : Prop := ms.Pairwise fun a b => ∀ k, a = .map (some k) → b ≠ .map (some k)
def OpenIs (base : Nat) (w : World) (v : Value) (S : List Hold) : Prop :=
 ∃ ms : List Value, ms.length = S.length ∧ w.ownsRow base 165 3 v S.length (holdVals S.reverse ms.reverse) ∧ (∀ i, (h : i < S.length) → (h' : i < ms.length) → MapIs base w S[i] ms[i]) ∧ Apart ms
theorem MapIs.old {base : Nat} {w w' : World} {h : Hold} {m : Value} (k : MapIs base w h m) (ho : Old w w') : MapIs base w' h m := by
 rcases k with k | ⟨b, h1, h2, h3⟩
 · exact .inl k
 · exact .inr ⟨b, h1, h2, h3.old ho⟩
theorem OpenIs.old {base : Nat} {w w' : World} {v : Value} {S : List Hold} (h : OpenIs base w v S) (ho : Old w w') : OpenIs base w' v S := by
 obtain ⟨ms, h1, h2, h3, h4⟩ := h
 exact ⟨ms, h1, own_old h2 ho, fun i hi hi' => (h3 i hi hi').old ho, h4⟩
theorem own_fits {base T size n : Nat} {w : World} {v : Value} {xs : List Value} (h : w.ownsRow base T size v n xs) (hn : 0 < n) : ∃ g cap, v = .slice (some ⟨g, 0, none⟩) n cap ∧ n ≤ cap ∧ cap ≤ maxLen ∧ base ≤ g ∧ ∀ j u, xs[j]? = some u → w.cell? ⟨g, j, none⟩ = some u := by
 obtain ⟨hl, h2⟩ := h
 rcases h2 with ⟨rfl, h0⟩ | ⟨g, cap, cur, rfl, hb, hh, hnc, hm, hs, ht⟩
 · omega
 · refine ⟨g, cap, rfl, hnc, hm, hb, fun j u hu => ?_⟩
   rw [cell_of_heap hh]
   rw [← ht, List.getElem?_take] at hu
   split at hu
   · simpa using hu
   · cases hu
theorem own_less {base T size n m g cap : Nat} {w : World} {xs : List Value} (h : w.ownsRow base T size (.slice (some ⟨g, 0, none⟩) n cap) n xs) (hm : m ≤ n) : w.ownsRow base T size (.slice (some ⟨g, 0, none⟩) m cap) m (xs.take (m * size)) := by
 obtain ⟨hl, h2⟩ := h
 rcases h2 with ⟨h0, _⟩ | ⟨g', cap', cur, he, hb, hh, hnc, hmx, hs, ht⟩
 · cases h0
 · injection he with e1 e2 e3
   injection e1 with e1
   injection e1 with e1
   subst e1 e3
   have h3 : m * size ≤ n * size := Nat.mul_le_mul_right _ hm
   refine ⟨by rw [List.length_take, hl, Nat.min_eq_left h3], .inr ⟨g, cap, cur, rfl, hb, hh, by omega, hmx, hs, ?_⟩⟩
   rw [← ht, List.take_take, Nat.min_eq_left h3]
theorem OpenIs.top {base : Nat} {w : World} {v : Value} {h : Hold} {S : List Hold} (ho : OpenIs base w v (h :: S)) :
 ∃ g cap m, v = .slice (some ⟨g, 0, none⟩) (S.length + 1) cap ∧ S.length + 1 ≤ cap ∧ cap ≤ maxLen ∧ base ≤ g ∧ w.cell? ⟨g, S.length * 3, none⟩ = some (.int .i64 h.kind) ∧ w.cell? ⟨g, S.length * 3 + 1, none⟩ = some (.int .i64 h.fin) ∧ w.cell? ⟨g, S.length * 3 + 2, none⟩ = some m ∧ MapIs base w h m := by
 obtain ⟨ms, h1, h2, h3, h4⟩ := ho
 match ms, h1, h2, h3 with
 | m :: ms, h1, h2, h3 =>
   obtain ⟨g, cap, rfl, a1, a2, a3, a4⟩ := own_fits h2 (by simp)
   have hl : ms.reverse.length = S.reverse.length := by simpa using h1
   rw [List.reverse_cons, List.reverse_cons, holdVals_append _ _ _ _ hl, holdVals_one] at a4
   have hL : (holdVals S.reverse ms.reverse).length = S.length * 3 := by rw [holdVals_length _ _ hl, List.length_reverse]
   refine ⟨g, cap, m, rfl, a1, a2, a3, a4 _ _ ?_, a4 _ _ ?_, a4 _ _ ?_, h3 0 (by simp) (by simp)⟩
   · rw [List.getElem?_append_right (by omega), hL, Nat.sub_self]; rfl
   · rw [List.getElem?_append_right (by omega), hL, show S.length * 3 + 1 - S.length * 3 = 1 by omega]; rfl
   · rw [List.getElem?_append_right (by omega), hL, show S.length * 3 + 2 - S.length * 3 = 2 by omega]; rfl
theorem OpenIs.pop {base : Nat} {w : World} {g cap : Nat} {h : Hold} {S : List Hold} (ho : OpenIs base w (.slice (some ⟨g, 0, none⟩) (S.length + 1) cap) (h :: S)) : OpenIs base w (.slice (some ⟨g, 0, none⟩) S.length cap) S := by
 obtain ⟨ms, h1, h2, h3, h4⟩ := ho
 match ms, h1, h2, h3, h4 with
 | m :: ms, h1, h2, h3, h4 =>
   have hl : ms.reverse.length = S.reverse.length := by simpa using h1
   have hL : (holdVals S.reverse ms.reverse).length = S.length * 3 := by rw [holdVals_length _ _ hl, List.length_reverse]
   refine ⟨ms, by simpa using h1, ?_, fun i hi hi' => ?_, (List.pairwise_cons.1 h4).2⟩
   · have := own_less h2 (m := S.length) (by simp)
     rwa [List.reverse_cons, List.reverse_cons, holdVals_append _ _ _ _ hl, List.take_left' hL] at this
   · have := h3 (i + 1) (by simpa using hi) (by simpa using hi')
     simpa using this
theorem keys_apart {base : Nat} {w : World} {v : Value} {n : Nat} {xs : List Value} {T size b : Nat} {had : List ByteArray} (h : w.ownsRow base T size v n xs) (k : Keys w b had) : some b ≠ v.ownBlock := by
 intro e
 obtain ⟨cs, T', f, h1, _⟩ := own_block h b e.symm
 obtain ⟨D, ⟨es, clock, h2, _⟩, _⟩ := k
 rw [h1] at h2
 cases h2
theorem OpenIs.put {base : Nat} {w w' : World} {v : Value} {h : Hold} {S : List Hold} {b : Nat} {k : ByteArray} (ho : OpenIs base w v (h :: S)) (hobj : h.obj = true) (hg : w.grownBy w' (some b)) (hk : Keys w' b (h.had ++ [k]))
 (hm : ∃ g cap, v = .slice (some ⟨g, 0, none⟩) (S.length + 1) cap ∧ w.cell? ⟨g, S.length * 3 + 2, none⟩ = some (.map (some b))) : OpenIs base w' v (h.add k :: S) := by
 obtain ⟨g, cap, rfl, hc⟩ := hm
 obtain ⟨g', cap', m', hv, _, _, _, _, _, hc', hm'⟩ := ho.top
 injection hv with e1 _ e3
 injection e1 with e1
 injection e1 with e1
 subst e1 e3
 rw [hc] at hc'
 injection hc' with hc'
 subst hc'
 obtain ⟨ms, h1, h2, h3, h4⟩ := ho
 have hadd : h.add k = ⟨h.obj, h.fin, h.had ++ [k]⟩ := by unfold Hold.add; rw [if_pos hobj]
 match ms, h1, h2, h3, h4 with
 | m :: ms, h1, h2, h3, h4 =>
   have hl : ms.reverse.length = S.reverse.length := by simpa using h1
   obtain ⟨g2, cap2, e, _, _, _, a4⟩ := own_fits h2 (by simp)
   injection e with e1 _ _
   injection e1 with e1
   injection e1 with e1
   subst e1
   have hL : (holdVals S.reverse ms.reverse).length = S.length * 3 := by rw [holdVals_length _ _ hl, List.length_reverse]
   have hmm : m = .map (some b) := by
    have := a4 (S.length * 3 + 2) m (by
     rw [List.reverse_cons, List.reverse_cons, holdVals_append _ _ _ _ hl, holdVals_one, List.getElem?_append_right (by omega), hL, show S.length * 3 + 2 - S.length * 3 = 2 by omega]; rfl)
    rw [hc] at this
    injection this with this
    exact this.symm
   subst hmm
   have hb : base ≤ b ∧ Keys w b h.had := by
    rcases h3 0 (by simp) (by simp) with ⟨e, _⟩ | ⟨b', e, r⟩
    · cases e
    · simp at e
      subst e
      exact r
   refine ⟨.map (some b) :: ms, by simpa using h1, ?_, fun i hi hi' => ?_, h4⟩
   · have e : holdVals (h.add k :: S).reverse (.map (some b) :: ms).reverse = holdVals (h :: S).reverse (.map (some b) :: ms).reverse := by
      rw [List.reverse_cons, List.reverse_cons, List.reverse_cons, holdVals_append _ _ _ _ hl, holdVals_append _ _ _ _ hl, hadd]
      rfl
     rw [e]
     exact h2.kept hg (.inr (Ne.symm (keys_apart h2 hb.2)))
   · cases i with
     | zero =>
       refine .inr ⟨b, rfl, hb.1, ?_⟩
       simp only [List.getElem_cons_zero]
       rw [hadd]
       exact hk
     | succ i =>
       have hi2 : i < ms.length := by simpa using hi'
       rcases h3 (i + 1) hi hi' with hx | ⟨b', e, r1, r2⟩
       · exact .inl hx
       · refine .inr ⟨b', e, r1, r2.grown hg ?_⟩
         intro eb
         injection eb with eb
         have := (List.pairwise_cons.1 h4).1 (ms[i]) (List.getElem_mem hi2) b rfl
         apply this
         simp only [List.getElem_cons_succ] at e
         rw [e, eb]
theorem holderInfo : (Tryz.prog.info? 165).map (fun i => (i.zero, i.size, i.bytes)) = some (some (.agg #[.int .i64 0, .int .i64 0, .map none]), 3, 24) := by kernel_rfl
theorem MapIs.apart {base b : Nat} {w : World} {h : Hold} (k : MapIs base w h (.map (some b))) : b < w.heap.size := by
 rcases k with ⟨e, _⟩ | ⟨b', e, _, r⟩
 · cases e
 · injection e with e
   injection e with e
   subst e
   exact r.lt
theorem step_push_hold {o : Oper} {a : Act} {K : Act → World → Prop} {Q : Exit → Act → World → Prop} (w0 w : World) (s x : Operand)
 (ho : o.op = .call { callee := .builtin .append, args := #[s, x], argTypes := #[166, 166] })
 (base : Nat) (v : Value) (S : List Hold) (hs : a.eval s = v) (hown : OpenIs base w0 v S) (hold : Old w0 w) (hd : Hold) (b g cap : Nat) (hb0 : base ≤ w0.heap.size) (hb : w0.heap.size ≤ b) (hk : Keys w b hd.had)
 (hx : a.eval x = .slice (some ⟨g, 0, none⟩) 1 cap) (h0 : w.cell? ⟨g, 0, none⟩ = some (.int .i64 hd.kind)) (h1 : w.cell? ⟨g, 1, none⟩ = some (.int .i64 hd.fin)) (h2 : w.cell? ⟨g, 2, none⟩ = some (.map (some b)))
 (hlen : S.length + 1 ≤ 4194304)
 (h : ∀ v' w', OpenIs base w' v' (hd :: S) → Below base w w' → K (a.put o.dst v') w') : o.wp Tryz.prog a w K Q := by
 obtain ⟨i0, hi, hz0, hz1, hz2⟩ := info_parts holderInfo
 obtain ⟨ms, e1, e2, e3, e4⟩ := hown
 have e2' := own_old e2 hold
 refine wp_append_own w s x 166 ho base 165 i0 (.agg #[.int .i64 0, .int .i64 0, .map none]) 3 24 Tryz.underlying166 hi hz0 hz1 hz2 rfl (by omega) v S.length (holdVals S.reverse ms.reverse) hs e2'
  ⟨g, 0, none⟩ 1 cap [.int .i64 hd.kind, .int .i64 hd.fin, .map (some b)] hx rfl ?_ ?_ (by unfold maxLen; omega) (by omega) (Nat.le_trans hb0 hold.size) ?_
 · intro j u hu
   match j, hu with
   | 0, hu => simp at hu; subst hu; exact h0
   | 1, hu => simp at hu; subst hu; simpa [Addr.add] using h1
   | 2, hu => simp at hu; subst hu; simpa [Addr.add] using h2
   | j + 3, hu => simp at hu
 · intro u hu
   simp at hu
   rcases hu with rfl | rfl | rfl <;> rfl
 · intro v' w' own' hg _
   have hl : ms.reverse.length = S.reverse.length := by simpa using e1
   refine h v' w' ⟨.map (some b) :: ms, by simp [e1], ?_, fun i hi hi' => ?_, List.pairwise_cons.2 ⟨fun m hm k hk => ?_, e4⟩⟩ (Kept.of_grown e2' hg (Nat.le_trans hb0 hold.size)).low
   · rw [List.reverse_cons, List.reverse_cons, holdVals_append _ _ _ _ hl, holdVals_one, List.length_cons]
     exact own'
   · cases i with
     | zero => exact .inr ⟨b, rfl, Nat.le_trans hb0 hb, hk.grown hg (keys_apart e2' hk)⟩
     | succ i =>
       have hi2 : i < S.length := by simpa using hi
       have hi3 : i < ms.length := by simpa using hi'
       rcases (e3 i hi2 hi3).old hold with hx | ⟨b', e, r1, r2⟩
       · exact .inl hx
       · exact .inr ⟨b', e, r1, r2.grown hg (keys_apart e2' r2)⟩
   · injection hk with hk
     injection hk with hk
     subst hk
     intro em
     obtain ⟨i, hi, rfl⟩ := List.getElem_of_mem hm
     have := e3 i (by omega) hi
     rw [em] at this
     have := this.apart
     omega
end Go.Proofs.YthlfljmfggmfdaaGreatDoor
