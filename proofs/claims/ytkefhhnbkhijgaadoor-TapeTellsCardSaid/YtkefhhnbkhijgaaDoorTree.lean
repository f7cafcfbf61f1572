/- Values as trees, and the nodes that they are laid out as: plain laws. No program is named here. -/
import Derived.Lib.Hide
namespace Go.Proofs.YtkefhhnbkhijgaaDoor

/-- a node, as the program has it -/
structure Nd where
  kind : Int
  key : ByteArray
  n : Int
  s : ByteArray
  size : Int
deriving DecidableEq
/-- what a node says but for its size -/
structure Hd where
  kind : Int
  key : ByteArray
  n : Int
  s : ByteArray
deriving DecidableEq
/-- a value: its node, and its parts -/
inductive J where
  | mk (h : Hd) (l : List J)

theorem J.both {P : J → Prop} {Q : List J → Prop} (mk : ∀ h l, Q l → P (.mk h l)) (nil : Q []) (cons : ∀ j l, P j → Q l → Q (j :: l)) : (∀ j, P j) ∧ ∀ l, Q l :=
  ⟨fun j => J.rec (motive_1 := P) (motive_2 := Q) mk nil cons j, fun l => J.rec_1 (motive_1 := P) (motive_2 := Q) mk nil cons l⟩

def J.hd : J → Hd
  | .mk h _ => h
def J.key (j : J) : ByteArray := j.hd.key
def J.kids : J → List J
  | .mk _ l => l
mutual
def J.flat : J → List Nd
  | .mk h l => ⟨h.kind, h.key, h.n, h.s, (J.flats l).length + 1⟩ :: J.flats l
def J.flats : List J → List Nd
  | [] => []
  | j :: l => J.flat j ++ J.flats l
end
mutual
def J.deep : J → Nat
  | .mk _ l => J.deeps l + 1
def J.deeps : List J → Nat
  | [] => 0
  | j :: l => max (J.deep j) (J.deeps l)
end
def J.size (j : J) : Nat := j.flat.length

def none_ : ByteArray := ⟨#[]⟩
/-- what a node of one part may be -/
def leafOk (V : ByteArray → Bool) (h : Hd) : Prop :=
  ((h.kind = 1 ∨ h.kind = 2 ∨ h.kind = 3) ∧ h.n = 0 ∧ h.s = none_) ∨ (h.kind = 4 ∧ h.s = none_) ∨ (h.kind = 5 ∧ h.n = 0 ∧ V h.s = true)
/-- what keys members may have, behind some that were there -/
def keysOk (V : ByteArray → Bool) : List ByteArray → List ByteArray → Prop
  | _, [] => True
  | had, k :: ks => V k = true ∧ k ∉ had ∧ keysOk V (had ++ [k]) ks
def plainHd (h : Hd) : Prop := h.n = 0 ∧ h.s = none_
mutual
def J.Ok (V : ByteArray → Bool) : J → Prop
  | .mk h l => (leafOk V h ∧ l = []) ∨ (h.kind = 6 ∧ plainHd h ∧ J.Oks V l ∧ ∀ j ∈ l, j.key = none_) ∨ (h.kind = 7 ∧ plainHd h ∧ J.Oks V l ∧ keysOk V [] (l.map J.key))
def J.Oks (V : ByteArray → Bool) : List J → Prop
  | [] => True
  | j :: l => J.Ok V j ∧ J.Oks V l
end

section
theorem flat_pos (j : J) : 0 < j.flat.length := by cases j; simp [J.flat]
theorem flats_cons (j : J) (l : List J) : J.flats (j :: l) = j.flat ++ J.flats l := by simp [J.flats]
theorem flats_append (l m : List J) : J.flats (l ++ m) = J.flats l ++ J.flats m := by
  induction l with
  | nil => simp [J.flats]
  | cons j l ih => simp [J.flats, ih]
theorem flats_one (j : J) : J.flats [j] = j.flat := by simp [J.flats]
theorem flat_mk (h : Hd) (l : List J) : J.flat (.mk h l) = ⟨h.kind, h.key, h.n, h.s, (J.flats l).length + 1⟩ :: J.flats l := by simp [J.flat]
theorem flat_head (j : J) : ∃ r, j.flat = ⟨j.hd.kind, j.hd.key, j.hd.n, j.hd.s, j.flat.length⟩ :: r := by
  cases j with
  | mk h l => exact ⟨J.flats l, by simp [J.flat, J.hd]⟩
theorem oks_append {V : ByteArray → Bool} {l m : List J} : J.Oks V (l ++ m) ↔ J.Oks V l ∧ J.Oks V m := by
  induction l with
  | nil => simp [J.Oks]
  | cons j l ih => simp [J.Oks, ih, and_assoc]
theorem oks_mem {V : ByteArray → Bool} {l : List J} (h : J.Oks V l) : ∀ j ∈ l, J.Ok V j := by
  induction l with
  | nil => simp
  | cons j l ih =>
    intro x hx
    simp only [J.Oks] at h
    rcases List.mem_cons.1 hx with rfl | hx
    · exact h.1
    · exact ih h.2 x hx
theorem oks_of {V : ByteArray → Bool} {l : List J} (h : ∀ j ∈ l, J.Ok V j) : J.Oks V l := by
  induction l with
  | nil => simp [J.Oks]
  | cons j l ih =>
    simp only [J.Oks]
    exact ⟨h j (by simp), ih fun x hx => h x (by simp [hx])⟩
theorem deeps_append (l m : List J) : J.deeps (l ++ m) = max (J.deeps l) (J.deeps m) := by
  induction l with
  | nil => simp [J.deeps]
  | cons j l ih => simp [J.deeps, ih, Nat.max_assoc]
theorem deep_pos (j : J) : 0 < j.deep := by cases j; simp [J.deep]
theorem deeps_le {l : List J} {n : Nat} (h : ∀ j ∈ l, j.deep ≤ n) : J.deeps l ≤ n := by
  induction l with
  | nil => simp [J.deeps]
  | cons j l ih =>
    simp only [J.deeps]
    have := h j (by simp)
    have := ih fun x hx => h x (by simp [hx])
    omega
theorem deep_le_deeps {l : List J} {j : J} (h : j ∈ l) : j.deep ≤ J.deeps l := by
  induction l with
  | nil => simp at h
  | cons x l ih =>
    simp only [J.deeps]
    rcases List.mem_cons.1 h with rfl | h
    · omega
    · have := ih h; omega

/-- what nodes say is one value alone -/
theorem unique_both : (∀ j : J, ∀ (j' : J) (r r' : List Nd), j.flat ++ r = j'.flat ++ r' → j = j' ∧ r = r') ∧ ∀ l : List J, ∀ l' : List J, J.flats l = J.flats l' → l = l' := by
  refine J.both ?_ ?_ ?_
  · intro h l ih j' r r' e
    cases j' with
    | mk h' l' =>
      simp only [flat_mk, List.cons_append, List.cons.injEq, Nd.mk.injEq] at e
      obtain ⟨⟨e1, e2, e3, e4, e5⟩, e6⟩ := e
      have hl : (J.flats l).length = (J.flats l').length := by omega
      obtain ⟨e7, e8⟩ := List.append_inj e6 hl
      have e9 := ih l' e7
      subst e9
      refine ⟨?_, e8⟩
      cases h; cases h'
      simp_all
  · intro l' e
    cases l' with
    | nil => rfl
    | cons j l' =>
      have h1 := flat_pos j
      have h2 := congrArg List.length e
      rw [flats_cons, List.length_append] at h2
      simp only [J.flats, List.length_nil] at h2
      omega
  · intro j l hj hl l' e
    cases l' with
    | nil =>
      have h1 := flat_pos j
      have h2 := congrArg List.length e
      rw [flats_cons, List.length_append] at h2
      simp only [J.flats, List.length_nil] at h2
      omega
    | cons j' l' =>
      rw [flats_cons, flats_cons] at e
      obtain ⟨e1, e2⟩ := hj j' _ _ e
      rw [e1, hl l' e2]
theorem flat_unique {j j' : J} {r r' : List Nd} (h : j.flat ++ r = j'.flat ++ r') : j = j' ∧ r = r' := unique_both.1 j j' r r' h
theorem flat_inj {j j' : J} (h : j.flat = j'.flat) : j = j' := (flat_unique (r := []) (r' := []) (by simpa using h)).1
theorem flats_inj {l l' : List J} (h : J.flats l = J.flats l') : l = l' := unique_both.2 l l' h
/-- the parts behind some parts -/
theorem flats_prefix : ∀ {l l' : List J} {r : List Nd}, J.flats l ++ r = J.flats l' → ∃ m, l' = l ++ m ∧ r = J.flats m
  | [], l', r, h => ⟨l', rfl, by simpa [J.flats] using h⟩
  | j :: l, [], r, h => by
    have h1 := flat_pos j
    have h2 := congrArg List.length h
    rw [flats_cons, List.length_append, List.length_append] at h2
    simp only [J.flats, List.length_nil] at h2
    omega
  | j :: l, j' :: l', r, h => by
    rw [flats_cons, flats_cons, List.append_assoc] at h
    obtain ⟨e1, e2⟩ := flat_unique h
    obtain ⟨m, h1, h2⟩ := flats_prefix e2
    exact ⟨m, by rw [e1, h1]; rfl, h2⟩
end

/-! ### the look over the nodes, with the holders that are open -/
structure Hold where
  obj : Bool
  fin : Nat
  had : List ByteArray
def popAll (i : Nat) : List Hold → List Hold
  | [] => []
  | h :: S => if h.fin = i then popAll i S else h :: S
def fitsB (V : ByteArray → Bool) (x : Nd) : Bool :=
  if x.kind = 4 then decide (x.size = 1) && decide (x.s = none_)
  else if x.kind = 5 then decide (x.size = 1) && decide (x.n = 0) && V x.s
  else if x.kind = 6 ∨ x.kind = 7 then decide (x.n = 0) && decide (x.s = none_)
  else decide (1 ≤ x.kind) && decide (x.kind < 4) && (decide (x.n = 0) && decide (x.s = none_) && decide (x.size = 1))
def hasKey (l : List ByteArray) (k : ByteArray) : Bool := l.any fun x => decide (x = k)
theorem hasKey_iff {l : List ByteArray} {k : ByteArray} : hasKey l k = true ↔ k ∈ l := by simp [hasKey]
theorem hasKey_not {l : List ByteArray} {k : ByteArray} : hasKey l k = false ↔ k ∉ l := by rw [← hasKey_iff]; simp
def keyB (V : ByteArray → Bool) (h : Hold) (k : ByteArray) : Bool := if h.obj then V k && !hasKey h.had k else decide (k = none_)
def Hold.add (h : Hold) (k : ByteArray) : Hold := if h.obj then ⟨h.obj, h.fin, h.had ++ [k]⟩ else h
def nodeB (V : ByteArray → Bool) (h : Hold) (i : Nat) (x : Nd) : Bool := decide (1 ≤ x.size) && decide (x.size ≤ (h.fin : Int) - i) && fitsB V x && keyB V h x.key
def pushed (h : Hold) (S : List Hold) (i : Nat) (x : Nd) : List Hold := if 6 ≤ x.kind then ⟨decide (x.kind = 7), i + x.size.toNat, []⟩ :: h.add x.key :: S else h.add x.key :: S
def lookGo (V : ByteArray → Bool) : List Nd → List Hold → Nat → Nat → Option Nat
  | [], _, _, d => some d
  | x :: r, S, i, d => match popAll i S with
    | [] => none
    | h :: S' => if nodeB V h i x then lookGo V r (pushed h S' i x) (i + 1) (max d (S'.length + 1)) else none
def lookOf (V : ByteArray → Bool) (t : List Nd) : Option Nat :=
  match t with
  | [] => none
  | x :: _ => if x.key = none_ ∧ x.size = t.length then lookGo V t [⟨false, t.length, []⟩] 0 0 else none

section
variable {V : ByteArray → Bool}
theorem add_fin (h : Hold) (k : ByteArray) : (h.add k).fin = h.fin := by unfold Hold.add; split <;> rfl
theorem add_obj (h : Hold) (k : ByteArray) : (h.add k).obj = h.obj := by unfold Hold.add; split <;> rfl
def Hold.adds (h : Hold) : List ByteArray → Hold
  | [] => h
  | k :: ks => (h.add k).adds ks
theorem adds_fin (h : Hold) (ks : List ByteArray) : (h.adds ks).fin = h.fin := by
  induction ks generalizing h with
  | nil => rfl
  | cons k ks ih => rw [Hold.adds, ih, add_fin]
/-- the keys that a holder takes -/
def takes (V : ByteArray → Bool) (h : Hold) (ks : List ByteArray) : Prop := if h.obj then keysOk V h.had ks else ∀ k ∈ ks, k = none_
theorem takes_nil (h : Hold) : takes V h [] := by unfold takes; split <;> simp [keysOk]
theorem takes_cons (h : Hold) (k : ByteArray) (ks : List ByteArray) : takes V h (k :: ks) ↔ keyB V h k = true ∧ takes V (h.add k) ks := by
  unfold takes keyB Hold.add
  by_cases ho : h.obj
  · simp [ho, keysOk, and_assoc, hasKey_not]
  · simp [ho]
theorem popAll_top {i : Nat} {h : Hold} {S : List Hold} (hi : i < h.fin) : popAll i (h :: S) = h :: S := by
  rw [popAll, if_neg (by omega)]
theorem popAll_fin {i : Nat} {h : Hold} {S : List Hold} (hi : h.fin = i) : popAll i (h :: S) = popAll i S := by
  rw [popAll, if_pos hi]

theorem fits_leaf {h : Hd} : leafOk V h ↔ fitsB V ⟨h.kind, h.key, h.n, h.s, 1⟩ = true ∧ h.kind < 6 := by
  unfold leafOk fitsB
  simp only
  constructor
  · rintro (⟨hk, h1, h2⟩ | ⟨hk, h1⟩ | ⟨hk, h1, h2⟩)
    · rcases hk with hk | hk | hk <;> simp [hk, h1, h2]
    · simp [hk, h1]
    · simp [hk, h1, h2]
  · rintro ⟨h1, h2⟩
    split at h1
    · rename_i hk; simp at h1; exact .inr (.inl ⟨hk, h1⟩)
    · split at h1
      · rename_i hk; simp at h1; exact .inr (.inr ⟨hk, h1.1, h1.2⟩)
      · split at h1
        · omega
        · simp at h1
          exact .inl ⟨by omega, h1.2.1, h1.2.2⟩
theorem fits_size {x : Nd} (h : fitsB V x = true) (hk : x.kind < 6) : x.size = 1 := by
  unfold fitsB at h
  split at h
  · simp at h; exact h.1
  · split at h
    · simp at h; exact h.1.1
    · split at h
      · omega
      · simp at h; exact h.2.2
theorem fits_kind {x : Nd} (h : fitsB V x = true) (hk : 6 ≤ x.kind) : (x.kind = 6 ∨ x.kind = 7) ∧ x.n = 0 ∧ x.s = none_ := by
  unfold fitsB at h
  rw [if_neg (by omega), if_neg (by omega)] at h
  split at h
  · simp at h; exact ⟨by assumption, h⟩
  · simp at h; omega
theorem fits_holder {x : Nd} (hk : x.kind = 6 ∨ x.kind = 7) (h1 : x.n = 0) (h2 : x.s = none_) : fitsB V x = true := by
  unfold fitsB
  rw [if_neg (by omega), if_neg (by omega), if_pos hk]
  simp [h1, h2]

/-- a value is gone over -/
theorem look_both : (∀ j : J, j.Ok V → ∀ (S0 : List Hold) (i d : Nat) (h : Hold) (S : List Hold) (r : List Nd), popAll i S0 = h :: S → i + j.flat.length ≤ h.fin → S.length ≤ d → keyB V h j.key = true →
      ∃ S1, popAll (i + j.flat.length) S1 = popAll (i + j.flat.length) (h.add j.key :: S) ∧ lookGo V (j.flat ++ r) S0 i d = lookGo V r S1 (i + j.flat.length) (max d (S.length + j.deep))) ∧
    ∀ l : List J, J.Oks V l → ∀ (S0 : List Hold) (i d : Nat) (h : Hold) (S : List Hold) (r : List Nd), popAll i S0 = popAll i (h :: S) → i + (J.flats l).length ≤ h.fin → S.length ≤ d → takes V h (l.map J.key) →
      ∃ S1, popAll (i + (J.flats l).length) S1 = popAll (i + (J.flats l).length) (h.adds (l.map J.key) :: S) ∧ lookGo V (J.flats l ++ r) S0 i d = lookGo V r S1 (i + (J.flats l).length) (max d (S.length + J.deeps l)) := by
  refine J.both ?_ ?_ ?_
  · intro hd l ih hok S0 i d h S r hp hfin hd' hkey
    rw [flat_mk] at *
    simp only [List.length_cons] at *
    rw [List.cons_append, lookGo, hp]
    simp only
    simp only [J.Ok] at hok
    rcases hok with ⟨hleaf, rfl⟩ | ⟨hk, hpl, hoks, hkids⟩ | ⟨hk, hpl, hoks, hkids⟩
    · obtain ⟨hf, hlt⟩ := fits_leaf.1 hleaf
      have hn : nodeB V h i ⟨hd.kind, hd.key, hd.n, hd.s, ((J.flats []).length : Int) + 1⟩ = true := by
        unfold nodeB
        have e : ((J.flats []).length : Int) + 1 = 1 := by simp [J.flats]
        rw [e, hf]
        have : keyB V h hd.key = true := hkey
        simp [this]
        simp [J.flats] at hfin
        omega
      rw [if_pos hn]
      refine ⟨h.add hd.key :: S, by simp [J.key, J.hd], ?_⟩
      unfold pushed
      rw [if_neg (show ¬ 6 ≤ hd.kind by omega)]
      simp [J.flats, J.deep, J.deeps]
    · have hn : nodeB V h i ⟨hd.kind, hd.key, hd.n, hd.s, ((J.flats l).length : Int) + 1⟩ = true := by
        unfold nodeB
        rw [fits_holder (.inl hk) hpl.1 hpl.2]
        have : keyB V h hd.key = true := hkey
        simp [this]
        omega
      rw [if_pos hn]
      unfold pushed
      rw [if_pos (show 6 ≤ hd.kind by omega)]
      obtain ⟨S1, h1, h2⟩ := ih hoks (⟨decide (hd.kind = 7), i + (((J.flats l).length : Int) + 1).toNat, []⟩ :: h.add hd.key :: S) (i + 1) (max d (S.length + 1)) ⟨decide (hd.kind = 7), i + (((J.flats l).length : Int) + 1).toNat, []⟩ (h.add hd.key :: S) r rfl (by simp only; omega) (by simp; omega) (by
        unfold takes
        simp only [hk]
        simp
        exact hkids)
      refine ⟨S1, ?_, ?_⟩
      · rw [show i + ((J.flats l).length + 1) = i + 1 + (J.flats l).length by omega, h1, popAll_fin (by rw [adds_fin]; simp only; omega)]
        rfl
      · rw [h2, show i + ((J.flats l).length + 1) = i + 1 + (J.flats l).length by omega]
        congr 1
        simp only [List.length_cons, J.deep]
        omega
    · have hn : nodeB V h i ⟨hd.kind, hd.key, hd.n, hd.s, ((J.flats l).length : Int) + 1⟩ = true := by
        unfold nodeB
        rw [fits_holder (.inr hk) hpl.1 hpl.2]
        have : keyB V h hd.key = true := hkey
        simp [this]
        omega
      rw [if_pos hn]
      unfold pushed
      rw [if_pos (show 6 ≤ hd.kind by omega)]
      obtain ⟨S1, h1, h2⟩ := ih hoks (⟨decide (hd.kind = 7), i + (((J.flats l).length : Int) + 1).toNat, []⟩ :: h.add hd.key :: S) (i + 1) (max d (S.length + 1)) ⟨decide (hd.kind = 7), i + (((J.flats l).length : Int) + 1).toNat, []⟩ (h.add hd.key :: S) r rfl (by simp only; omega) (by simp; omega) (by
        unfold takes
        simp only [hk]
        simp
        exact hkids)
      refine ⟨S1, ?_, ?_⟩
      · rw [show i + ((J.flats l).length + 1) = i + 1 + (J.flats l).length by omega, h1, popAll_fin (by rw [adds_fin]; simp only; omega)]
        rfl
      · rw [h2, show i + ((J.flats l).length + 1) = i + 1 + (J.flats l).length by omega]
        congr 1
        simp only [List.length_cons, J.deep]
        omega
  · intro _ S0 i d h S r hp _ hd' _
    refine ⟨S0, by simpa [J.flats, Hold.adds] using hp, ?_⟩
    simp only [J.flats, List.nil_append, List.length_nil, J.deeps, Nat.add_zero]
    rw [Nat.max_eq_left hd']
  · intro j l hj hl hoks S0 i d h S r hp hfin hd' hkeys
    simp only [J.Oks] at hoks
    rw [List.map_cons, takes_cons] at hkeys
    rw [flats_cons, List.length_append] at *
    have hpos := flat_pos j
    rw [popAll_top (by omega)] at hp
    obtain ⟨S1, h1, h2⟩ := hj hoks.1 S0 i d h S (J.flats l ++ r) hp (by omega) hd' hkeys.1
    obtain ⟨S2, h3, h4⟩ := hl hoks.2 S1 (i + j.flat.length) (max d (S.length + j.deep)) (h.add j.key) S r h1 (by rw [add_fin]; omega) (by omega) hkeys.2
    refine ⟨S2, ?_, ?_⟩
    · rw [← Nat.add_assoc, h3]
      rfl
    · rw [List.append_assoc, h2, h4, Nat.add_assoc]
      congr 1
      simp only [J.deeps]
      omega

/-- .. and what is gone over is values -/
theorem look_back : ∀ (N : Nat) (t : List Nd) (S0 : List Hold) (i d : Nat) (h : Hold) (S : List Hold) (d' : Nat), h.fin - i ≤ N → i ≤ h.fin → h.fin - i ≤ t.length → popAll i S0 = popAll i (h :: S) → S.length ≤ d → lookGo V t S0 i d = some d' →
    ∃ l : List J, J.Oks V l ∧ takes V h (l.map J.key) ∧ J.flats l = t.take (h.fin - i) := by
  intro N
  induction N with
  | zero =>
    intro t S0 i d h S d' h1 h2 h3 _ _ _
    exact ⟨[], by simp [J.Oks], takes_nil h, by rw [show h.fin - i = 0 by omega]; simp [J.flats]⟩
  | succ N ih =>
    intro t S0 i d h S d' h1 h2 h3 hp hd hgo
    by_cases he : h.fin = i
    · exact ⟨[], by simp [J.Oks], takes_nil h, by rw [show h.fin - i = 0 by omega]; simp [J.flats]⟩
    · cases t with
      | nil => simp at h3; omega
      | cons x r =>
        rw [popAll_top (by omega)] at hp
        rw [lookGo, hp] at hgo
        simp only at hgo
        split at hgo
        · rename_i hn
          unfold nodeB at hn
          simp only [Bool.and_eq_true, decide_eq_true_eq] at hn
          obtain ⟨⟨⟨hs1, hs2⟩, hf⟩, hk⟩ := hn
          unfold pushed at hgo
          by_cases hkind : 6 ≤ x.kind
          · rw [if_pos hkind] at hgo
            obtain ⟨hkk, hx1, hx2⟩ := fits_kind hf hkind
            obtain ⟨m, hm⟩ : ∃ m : Nat, x.size = (m : Int) + 1 := ⟨x.size.toNat - 1, by omega⟩
            have hr3 : h.fin - i ≤ r.length + 1 := h3
            obtain ⟨l1, a1, a2, a3⟩ := ih r _ (i + 1) (max d (S.length + 1)) ⟨decide (x.kind = 7), i + x.size.toNat, []⟩ (h.add x.key :: S) d' (by simp only; omega) (by simp only; omega) (by simp only; omega) rfl (by simp; omega) hgo
            simp only at a3
            rw [show i + x.size.toNat - (i + 1) = m by omega] at a3
            have hlen : (J.flats l1).length = m := by rw [a3]; simp; omega
            have hok : J.Ok V (.mk ⟨x.kind, x.key, x.n, x.s⟩ l1) := by
              simp only [J.Ok]
              rcases hkk with hkk | hkk
              · refine .inr (.inl ⟨hkk, ⟨hx1, hx2⟩, a1, fun j hj => ?_⟩)
                unfold takes at a2
                simp [hkk] at a2
                exact a2 j hj
              · refine .inr (.inr ⟨hkk, ⟨hx1, hx2⟩, a1, ?_⟩)
                unfold takes at a2
                simp [hkk] at a2
                exact a2
            have hflat : J.flat (.mk ⟨x.kind, x.key, x.n, x.s⟩ l1) = x :: r.take m := by
              rw [flat_mk, a3]
              congr 1
              rw [← a3, hlen]
              cases x
              simp_all
            obtain ⟨S1, b1, b2⟩ := look_both.2 l1 a1 (⟨decide (x.kind = 7), i + x.size.toNat, []⟩ :: h.add x.key :: S) (i + 1) (max d (S.length + 1)) ⟨decide (x.kind = 7), i + x.size.toNat, []⟩ (h.add x.key :: S) (r.drop m) rfl (by simp only; omega) (by simp; omega) a2
            rw [a3, List.take_append_drop, ← a3, hlen] at b2
            rw [b2] at hgo
            rw [hlen, popAll_fin (h := Hold.adds _ _) (by rw [adds_fin]; simp only; omega)] at b1
            obtain ⟨l2, c1, c2, c3⟩ := ih (r.drop m) S1 (i + 1 + m) _ (h.add x.key) S d' (by rw [add_fin]; omega) (by rw [add_fin]; omega) (by rw [add_fin, List.length_drop]; omega) b1 (by omega) hgo
            rw [add_fin] at c3
            refine ⟨.mk ⟨x.kind, x.key, x.n, x.s⟩ l1 :: l2, by simp only [J.Oks]; exact ⟨hok, c1⟩, ?_, ?_⟩
            · rw [List.map_cons, takes_cons]
              exact ⟨hk, c2⟩
            · rw [flats_cons, hflat, c3]
              obtain ⟨q, hq⟩ : ∃ q, h.fin - i = m + 1 + q := ⟨h.fin - i - (m + 1), by omega⟩
              rw [hq, show h.fin - (i + 1 + m) = q by omega, show m + 1 + q = (m + q) + 1 by omega, List.take_succ_cons, List.cons_append, List.take_add]
          · rw [if_neg hkind] at hgo
            have hs : x.size = 1 := fits_size hf (by omega)
            obtain ⟨l2, c1, c2, c3⟩ := ih r _ (i + 1) _ (h.add x.key) S d' (by rw [add_fin]; omega) (by rw [add_fin]; omega) (by rw [add_fin]; simp at h3; omega) rfl (by omega) hgo
            rw [add_fin] at c3
            have hok : J.Ok V (.mk ⟨x.kind, x.key, x.n, x.s⟩ []) := by
              simp only [J.Ok]
              refine .inl ⟨fits_leaf.2 ⟨?_, by simp only; omega⟩, by trivial⟩
              cases x
              simp_all
            have hflat : J.flat (.mk ⟨x.kind, x.key, x.n, x.s⟩ []) = [x] := by
              rw [flat_mk]
              cases x
              simp_all [J.flats]
            refine ⟨.mk ⟨x.kind, x.key, x.n, x.s⟩ [] :: l2, by simp only [J.Oks]; exact ⟨hok, c1⟩, ?_, ?_⟩
            · rw [List.map_cons, takes_cons]
              exact ⟨hk, c2⟩
            · rw [flats_cons, hflat, c3]
              obtain ⟨q, hq⟩ : ∃ q, h.fin - i = q + 1 := ⟨h.fin - i - 1, by omega⟩
              rw [hq, show h.fin - (i + 1) = q by omega, List.take_succ_cons]
              rfl
        · cases hgo

/-- which nodes are a tape, and how deep -/
def Tape (V : ByteArray → Bool) (j : J) (t : List Nd) : Prop := J.Ok V j ∧ j.key = none_ ∧ t = j.flat
theorem look_yes {j : J} {t : List Nd} (h : Tape V j t) : lookOf V t = some j.deep := by
  obtain ⟨h1, h2, rfl⟩ := h
  obtain ⟨S1, a1, a2⟩ := look_both.1 j h1 [⟨false, j.flat.length, []⟩] 0 0 ⟨false, j.flat.length, []⟩ [] [] (popAll_top (flat_pos j)) (by simp) (by simp) (by simp [keyB, h2])
  obtain ⟨r, hr⟩ := flat_head j
  unfold lookOf
  rw [hr]
  simp only
  rw [← hr, if_pos ⟨h2, rfl⟩]
  rw [List.append_nil] at a2
  rw [a2, lookGo]
  simp
theorem look_no {t : List Nd} {d : Nat} (h : lookOf V t = some d) : ∃ j, Tape V j t := by
  unfold lookOf at h
  split at h
  · cases h
  · rename_i x r
    split at h
    · rename_i hx
      obtain ⟨l, h1, h2, h3⟩ := look_back _ _ _ 0 0 ⟨false, (x :: r).length, []⟩ [] d (Nat.le_refl _) (Nat.zero_le _) (by simp) rfl (by simp) h
      simp only [Nat.sub_zero, List.take_length] at h3
      cases l with
      | nil => simp [J.flats] at h3
      | cons j l =>
        have hl : l = [] := by
          rw [flats_cons] at h3
          obtain ⟨q, hq⟩ := flat_head j
          rw [hq, List.cons_append, List.cons.injEq] at h3
          have e := hx.2
          rw [← h3.1] at e
          simp only at e
          have e2 := congrArg List.length h3.2
          have e3 := congrArg List.length hq
          simp at e e2 e3
          cases l with
          | nil => rfl
          | cons j' l' =>
            have := flat_pos j'
            rw [flats_cons] at e2
            simp at e2
            omega
        subst hl
        rw [flats_one] at h3
        simp only [J.Oks, and_true] at h1
        refine ⟨j, h1, ?_, h3.symm⟩
        unfold takes at h2
        simpa using h2
    · cases h
theorem look_none {t : List Nd} (h : ∀ j, ¬ Tape V j t) : lookOf V t = none := by
  cases e : lookOf V t with
  | none => rfl
  | some d =>
    obtain ⟨j, hj⟩ := look_no e
    exact absurd hj (h j)
end
end Go.Proofs.YtkefhhnbkhijgaaDoor
