/- The abstract layer: a region that draws its order, by what each of its operations yields. -/
import Derived.Test.YtjmedgagpheofaaGreatDoorF5
import Derived.Orders
set_option linter.unusedSectionVars false
set_option linter.unusedVariables false
set_option linter.unusedSimpArgs false
set_option linter.constructorNameAsVariable false
namespace Go.Abs
open Go.RowKit
variable [Tabs]

def AOp1 (P : Program) (ops : Array Oper) (i : Nat) (N : ASt → Prop) (Q : APost) (s : ASt) : Prop :=
  ∀ G W a, RA G s a → R G s.H W → wpOp P ops (lift G Q) i (liftN G N) a W

section
variable {P : Program} {Q : APost} {s : ASt} {N : ASt → Prop} {o : Oper} {ops : Array Oper}

theorem op1 {i : Nat} (ho : ops[i]? = some o) (hg : o.guard = none) (h : AOp P o N Q s) : AOp1 P ops i N Q s := by
  intro G W a ra r
  simp only [wpOp, ho]
  rw [if_pos (by simp [Region.wanted, hg])]
  exact .inl (h G W a ra r)
theorem op1_do {i j d : Nat} {oj : Oper} {b w : Bool} (ho : ops[i]? = some o) (hg : o.guard = some (j, w)) (hj : ops[j]? = some oj) (hd : oj.dst = some d) (hn : decide (d < s.n) = true)
    (hv : look d s.env = some (.bool b)) (hb : b = w) (h : AOp P o N Q s) : AOp1 P ops i N Q s := by
  intro G W a ra r
  simp only [wpOp, ho]
  rw [if_pos (by simp only [Region.wanted, hg, yielded_of ra hj hd hn hv]; subst hb; simp)]
  exact .inl (h G W a ra r)
theorem op1_skip {i j d : Nat} {oj : Oper} {b w : Bool} (ho : ops[i]? = some o) (hg : o.guard = some (j, w)) (hj : ops[j]? = some oj) (hd : oj.dst = some d) (hn : decide (d < s.n) = true)
    (hv : look d s.env = some (.bool b)) (hb : b ≠ w) (hdst : dstOK o.dst s.n = true) (h : N (s.put o.dst (.tuple []))) : AOp1 P ops i N Q s := by
  intro G W a ra r
  simp only [wpOp, ho]
  rw [if_neg (by simp only [Region.wanted, hg, yielded_of ra hj hd hn hv]; cases b <;> cases w <;> first | exact absurd rfl hb | decide)]
  exact ⟨_, G, h, ra.put hdst (.tuple .nil), by cases o.dst <;> exact r, .refl G⟩

/-- The edges into an operation. -/
def preds (ops : Array Oper) (i : Nat) : List Nat := match ops[i]? with
  | some o => (o.after.toList.filter (Region.binds .any)).map (·.on)
  | none => []
def dstOf (ops : Array Oper) (i : Nat) : Option Tmp := (ops[i]?).bind (·.dst)

/-- In the middle of a region: what an operation may lean on. -/
structure Mid (ops : Array Oper) (s s' : ASt) (res : Nat → AV) (i : Nat) : Prop where
  n : s'.n = s.n
  defs : s'.defs = s.defs
  outer : ∀ t v, (∀ j, dstOf ops j ≠ some t) → look t s.env = some v → look t s'.env = some v
  preds : ∀ j d, j ∈ preds ops i → dstOf ops j = some d → look d s'.env = some (res j)

inductive Kd where
  | pure | quiet | eff
  deriving DecidableEq

def withRes (ops : Array Oper) (res : Nat → AV) : List Nat → List (Nat × AV) → List (Nat × AV)
  | [], E => E
  | i :: l, E => match dstOf ops i with
    | some d => withRes ops res l ((d, res i) :: E)
    | none => withRes ops res l E

theorem look_withRes {res : Nat → AV} {t : Nat} : ∀ {l : List Nat} {E : List (Nat × AV)} {v : AV}, look t (withRes ops res l E) = some v → (∃ i ∈ l, dstOf ops i = some t ∧ res i = v) ∨ ((∀ i ∈ l, dstOf ops i ≠ some t) ∧ look t E = some v)
  | [], E, v, h => .inr ⟨by simp, h⟩
  | i :: l, E, v, h => by
    simp only [withRes] at h
    split at h
    · rename_i d hd
      rcases look_withRes h with ⟨j, hj, h1, h2⟩ | ⟨h1, h2⟩
      · exact .inl ⟨j, List.mem_cons_of_mem _ hj, h1, h2⟩
      · simp only [look] at h2
        split at h2
        · rename_i e; subst e
          exact .inl ⟨i, by simp, hd, by simpa using h2⟩
        · rename_i e
          refine .inr ⟨fun j hj => ?_, h2⟩
          rcases List.mem_cons.1 hj with rfl | hj
          · rw [hd]; simp; exact fun h => e h.symm
          · exact h1 j hj
    · rename_i hd
      rcases look_withRes h with ⟨j, hj, h1, h2⟩ | ⟨h1, h2⟩
      · exact .inl ⟨j, List.mem_cons_of_mem _ hj, h1, h2⟩
      · refine .inr ⟨fun j hj => ?_, h2⟩
        rcases List.mem_cons.1 hj with rfl | hj
        · rw [hd]; simp
        · exact h1 j hj

/-- What stands ahead of an operation, by whatever edges. -/
inductive Anc (ops : Array Oper) : Nat → Nat → Prop
  | one {e i : Nat} : e ∈ preds ops i → Anc ops e i
  | step {e j i : Nat} : j ∈ preds ops i → Anc ops e j → Anc ops e i

def ancM (ops : Array Oper) : Nat → List Nat
  | 0 => []
  | n + 1 => ancM ops n ++ [(preds ops n).foldl (fun m j => m ||| (1 <<< j) ||| (ancM ops n).getD j 0) 0]
theorem ancM_length (ops : Array Oper) : ∀ n, (ancM ops n).length = n
  | 0 => rfl
  | n + 1 => by simp [ancM, ancM_length ops n]
theorem ancM_ok (ops : Array Oper) : ∀ (n i e : Nat), ((ancM ops n).getD i 0).testBit e = true → Anc ops e i
  | 0, i, e, h => by simp [ancM] at h
  | n + 1, i, e, h => by
    have hl := ancM_length ops n
    simp only [ancM, List.getD_eq_getElem?_getD] at h
    rcases Nat.lt_trichotomy i n with hi | hi | hi
    · rw [List.getElem?_append_left (by omega)] at h
      exact ancM_ok ops n i e (by rw [List.getD_eq_getElem?_getD]; exact h)
    · subst hi
      rw [List.getElem?_append_right (by omega), hl, Nat.sub_self, List.getElem?_cons_zero, Option.getD_some] at h
      have key : ∀ (l : List Nat) (m : Nat), (∀ j ∈ l, j ∈ preds ops i) → (m.testBit e = true → Anc ops e i) → (l.foldl (fun m j => m ||| (1 <<< j) ||| (ancM ops i).getD j 0) m).testBit e = true → Anc ops e i := by
        intro l
        induction l with
        | nil => intro m _ hm h; exact hm h
        | cons j l ih =>
          intro m hl' hm h
          refine ih _ (fun q hq => hl' q (List.mem_cons_of_mem _ hq)) (fun hb => ?_) h
          rw [Nat.testBit_or, Nat.testBit_or, Bool.or_eq_true, Bool.or_eq_true] at hb
          rcases hb with (hb | hb) | hb
          · exact hm hb
          · have : j = e := by
              rw [Nat.one_shiftLeft, Nat.testBit_two_pow] at hb
              simpa using hb
            subst this
            exact .one (hl' j (by simp))
          · exact .step (hl' j (by simp)) (ancM_ok ops i j e hb)
      exact key _ 0 (fun _ h => h) (by simp) h
    · rw [List.getElem?_eq_none (by simp [hl]; omega)] at h
      simp at h

/-- What is asked of the region's own make: edges lead back; results lie apart; effects are in order with whatever reads. -/
structure Make (ops : Array Oper) (kd : Nat → Kd) : Prop where
  back : ∀ i j, j ∈ preds ops i → j < i
  apart : ∀ i j d, i < ops.size → j < ops.size → i ≠ j → dstOf ops i = some d → dstOf ops j ≠ some d
  order : ∀ e i, e < ops.size → i < ops.size → kd e = .eff → kd i ≠ .pure → e ≠ i → (e < i → Anc ops e i) ∧ (i < e → Anc ops i e)

def makeB (ops : Array Oper) (kd : Nat → Kd) : Bool :=
  (List.range ops.size).all fun i => (preds ops i).all (fun j => decide (j < i)) &&
    (List.range ops.size).all fun j => (i == j || !(dstOf ops i).isSome || dstOf ops i != dstOf ops j) &&
      (i == j || kd i != .eff || kd j == .pure || (if i < j then ((ancM ops ops.size).getD j 0).testBit i else ((ancM ops ops.size).getD i 0).testBit j))
theorem make_of {kd : Nat → Kd} (h : makeB ops kd = true) : Make ops kd := by
  unfold makeB at h
  rw [List.all_eq_true] at h
  have h1 : ∀ i, i < ops.size → _ := fun i hi => h i (List.mem_range.2 hi)
  refine ⟨fun i j hj => ?_, fun i j d hi hj hne hd => ?_, fun e i he hi hk hp hne => ?_⟩
  · have hi : i < ops.size := by
      rcases Nat.lt_or_ge i ops.size with h | h
      · exact h
      · unfold preds at hj; rw [Array.getElem?_eq_none h] at hj; simp at hj
    have := h1 i hi
    simp only [Bool.and_eq_true, List.all_eq_true] at this
    simpa using this.1 j hj
  · have := h1 i hi
    simp only [Bool.and_eq_true, List.all_eq_true] at this
    have := (this.2 j (List.mem_range.2 hj)).1
    simp only [Bool.or_eq_true, beq_iff_eq, hne, false_or, hd, Option.isSome_some, Bool.not_true, Bool.false_eq_true] at this
    intro e
    rw [e] at this
    simp at this
  · have := h1 e he
    simp only [Bool.and_eq_true, List.all_eq_true] at this
    have := (this.2 i (List.mem_range.2 hi)).2
    simp only [Bool.or_eq_true, beq_iff_eq, hne, false_or, hk, bne_self_eq_false, Bool.false_eq_true, hp] at this
    constructor
    · intro hlt; rw [if_pos hlt] at this; exact ancM_ok ops _ _ _ this
    · intro hlt; rw [if_neg (by omega)] at this; exact ancM_ok ops _ _ _ this

theorem listed_set {listed : Array Bool} {i j : Nat} (hi : i < listed.size) : (listed.setIfInBounds i true).getD j false = (decide (j = i) || listed.getD j false) := by
  simp only [Array.getD_eq_getD_getElem?, Array.getElem?_setIfInBounds]
  by_cases h : i = j
  · subst h; simp [hi]
  · simp [h, Ne.symm h]

theorem heaps_eq {kd : Nat → Kd} {HH : Nat → List AObj} {n : Nat} (hHH : ∀ i, i < n → kd i ≠ .eff → HH (i + 1) = HH i) : ∀ (d k : Nat), k + d ≤ n → (∀ e, k ≤ e → e < k + d → kd e ≠ .eff) → HH (k + d) = HH k
  | 0, _, _, _ => rfl
  | d + 1, k, hn, h => by
    rw [← Nat.add_assoc, hHH (k + d) (by omega) (h _ (by omega) (by omega))]
    exact heaps_eq hHH d k (by omega) (fun e h1 h2 => h e h1 (by omega))

structure Inv (ops : Array Oper) (kd : Nat → Kd) (s : ASt) (res : Nat → AV) (HH : Nat → List AObj) (listed : Array Bool) (s' : ASt) : Prop where
  n : s'.n = s.n
  defs : s'.defs = s.defs
  outer : ∀ t v, (∀ j, dstOf ops j ≠ some t) → look t s.env = some v → look t s'.env = some v
  got : ∀ j d, listed.getD j false = true → dstOf ops j = some d → look d s'.env = some (res j)
  down : ∀ i j, listed.getD i false = true → j ∈ preds ops i → listed.getD j false = true
  heap : ∃ k, k ≤ ops.size ∧ s'.H = HH k ∧ ∀ e, e < ops.size → kd e = .eff → (listed.getD e false = true ↔ e < k)

theorem Inv.downA {kd : Nat → Kd} {res : Nat → AV} {HH : Nat → List AObj} {listed : Array Bool} {s s' : ASt} (inv : Inv ops kd s res HH listed s') {e i : Nat} (h : Anc ops e i) : listed.getD i false = true → listed.getD e false = true := by
  induction h with
  | one h => exact fun hl => inv.down _ _ hl h
  | step h _ ih => exact fun hl => ih (inv.down _ _ hl h)

theorem mem_ready {listed : Array Bool} {i : Nat} (hsz : listed.size = ops.size) (h : i ∈ Region.ready .any ops listed) : i < ops.size ∧ listed.getD i false = false ∧ ∀ j ∈ preds ops i, listed.getD j false = true := by
  unfold Region.ready at h
  rw [List.mem_filter, List.mem_range] at h
  obtain ⟨hi, h⟩ := h
  rw [Bool.and_eq_true] at h
  obtain ⟨h1, h2⟩ := h
  refine ⟨hi, ?_, ?_⟩
  · have : i < listed.size := by omega
    simp only [Array.getD, this, dif_pos] at h1 ⊢
    simpa using h1
  · intro j hj
    have ho : ops[i]? = some ops[i] := Array.getElem?_eq_getElem hi
    unfold preds at hj
    rw [ho] at hj h2
    simp only [Option.map_some, Option.getD_some, Array.all_eq_true_iff_forall_mem, Bool.or_eq_true, Bool.not_eq_eq_eq_not, Bool.not_true] at h2
    simp only [List.mem_map, List.mem_filter] at hj
    obtain ⟨e, ⟨he, hb⟩, rfl⟩ := hj
    rcases h2 e (by simpa using he) with h | h
    · rw [h] at hb; cases hb
    · exact h

theorem ready_ne {listed : Array Bool} {kd : Nat → Kd} (hm : Make ops kd) (hsz : listed.size = ops.size) : ∀ (n i : Nat), i = n → i < ops.size → listed.getD i false = false → Region.ready .any ops listed ≠ [] := by
  intro n
  induction n using Nat.strongRecOn with
  | _ n ih =>
    intro i hin hi hl
    by_cases h : ∀ j ∈ preds ops i, listed.getD j false = true
    · have : i ∈ Region.ready .any ops listed := by
        unfold Region.ready
        rw [List.mem_filter, List.mem_range, Bool.and_eq_true]
        refine ⟨hi, ?_, ?_⟩
        · have : i < listed.size := by omega
          simp only [Array.getD, this, dif_pos] at hl ⊢
          simpa using hl
        · have ho : ops[i]? = some ops[i] := Array.getElem?_eq_getElem hi
          rw [ho]
          simp only [Option.map_some, Option.getD_some, Array.all_eq_true_iff_forall_mem, Bool.or_eq_true, Bool.not_eq_eq_eq_not, Bool.not_true]
          intro e he
          by_cases hb : Region.binds .any e = true
          · refine .inr (h _ ?_)
            unfold preds
            rw [ho]
            exact List.mem_map.2 ⟨e, List.mem_filter.2 ⟨by simpa using he, hb⟩, rfl⟩
          · exact .inl (by simpa using hb)
      intro he; rw [he] at this; cases this
    · have : ∃ j, j ∈ preds ops i ∧ listed.getD j false = false := by
        false_or_by_contra
        rename_i hc
        exact h fun j hj => by
          cases hx : listed.getD j false with
          | true => rfl
          | false => exact absurd ⟨j, hj, hx⟩ hc
      obtain ⟨j, hj, hlj⟩ := this
      have hlt := hm.back i j hj
      exact ih j (by omega) j rfl (by omega) hlj

/-- The rule: pan tells which operation panics, if one does. -/
theorem c_region_draw {id : Nat} {kd : Nat → Kd} (hmo : P.follows .mixedOrders = true) (hmk : makeB ops kd = true) (res : Nat → AV) (HH : Nat → List AObj) (h0 : HH 0 = s.H) (hHH : ∀ i, i < ops.size → kd i ≠ .eff → HH (i + 1) = HH i)
    (pan : Option (Nat × AV)) (hpan : ∀ i v, pan = some (i, v) → i < ops.size ∧ kd i ≠ .eff ∧ ∀ s', Mid ops s s' res i → s'.H = HH i → ∀ N Q, Q (.panic v) s' → AOp1 P ops i N Q s')
    (hpq : ∀ i v, pan = some (i, v) → ∀ s', s'.defs = s.defs → s'.H = HH i → Q (.panic v) s') (hpk : ∀ i v, pan = some (i, v) → kd i = .quiet)
    (cert : ∀ i, i < ops.size → (∀ v, pan ≠ some (i, v)) → ∀ s', Mid ops s s' res i → (kd i ≠ .pure → s'.H = HH i) → (∃ j, j ≤ ops.size ∧ s'.H = HH j) → ∀ N Q, N (ASt.put { s' with H := if kd i = .eff then HH (i + 1) else s'.H } (dstOf ops i) (res i)) → AOp1 P ops i N Q s')
    (hQ : pan = none → Q .normal { s with env := withRes ops res (List.range ops.size) s.env, H := HH ops.size }) : ACode P (.region id ops true) Q s := by
  have hm := make_of hmk
  intro G W a ra r
  refine wp_region_any hmo ?_
  have key : ∀ (fuel : Nat) (listed : Array Bool) (s' : ASt) (G' : Gh) (a' : Act) (W' : World), listed.size = ops.size → (List.range ops.size).countP (fun i => !listed.getD i false) ≤ fuel → (∀ i v, pan = some (i, v) → listed.getD i false = false) → Inv ops kd s res HH listed s' → RA G' s' a' → R G' s'.H W' → G.le G' →
      wpAny P .any ops (lift G Q) fuel listed a' W' := by
    have hdone : ∀ (listed : Array Bool) (s' : ASt) (G' : Gh) (a' : Act) (W' : World), listed.size = ops.size → (∀ i v, pan = some (i, v) → listed.getD i false = false) → Region.ready .any ops listed = [] → Inv ops kd s res HH listed s' → RA G' s' a' → R G' s'.H W' → G.le G' → lift G Q .normal a' W' := by
      intro listed s' G' a' W' hsz hp hr inv ra' r' hle
      have hall : ∀ i, i < ops.size → listed.getD i false = true := fun i hi => by
        cases hx : listed.getD i false with
        | true => rfl
        | false => exact absurd hr (ready_ne hm hsz i i rfl hi hx)
      have hpn : pan = none := by
        cases hx : pan with
        | none => rfl
        | some p =>
          have h1 := hp p.1 p.2 hx
          rw [hall p.1 (hpan p.1 p.2 hx).1] at h1; cases h1
      obtain ⟨k, hk, hH, hiff⟩ := inv.heap
      have hHk : s'.H = HH ops.size := by
        rw [hH, show ops.size = k + (ops.size - k) by omega]
        refine (heaps_eq hHH (ops.size - k) k (by omega) (fun e h1 h2 he => ?_)).symm
        have := (hiff e (by omega) he).1 (hall e (by omega))
        omega
      refine ⟨.normal, _, G', hQ hpn, .normal, ⟨ra'.size.trans inv.n, ?_, inv.defs ▸ ra'.defs⟩, hHk ▸ r', hle⟩
      intro t v hv
      rcases look_withRes hv with ⟨i, hi, h1, h2⟩ | ⟨h1, h2⟩
      · subst h2
        exact ra'.env t _ (inv.got i t (hall i (List.mem_range.1 hi)) h1)
      · refine ra'.env t v (inv.outer t v (fun j => ?_) h2)
        by_cases hj : j < ops.size
        · exact h1 j (List.mem_range.2 hj)
        · unfold dstOf; rw [Array.getElem?_eq_none (by omega)]; simp
    intro fuel
    induction fuel with
    | zero =>
      intro listed s' G' a' W' hsz hc hp inv ra' r' hle
      have hr : Region.ready .any ops listed = [] := by
        cases hx : Region.ready .any ops listed with
        | nil => rfl
        | cons i l =>
          obtain ⟨hi, hl, _⟩ := mem_ready hsz (by rw [hx]; exact List.mem_cons_self)
          have : 0 < (List.range ops.size).countP (fun i => !listed.getD i false) := List.countP_pos_iff.2 ⟨i, List.mem_range.2 hi, by rw [hl]; rfl⟩
          omega
      exact ⟨hr, hdone listed s' G' a' W' hsz hp hr inv ra' r' hle⟩
    | succ fuel ih =>
      intro listed s' G' a' W' hsz hc hp inv ra' r' hle
      refine ⟨fun hr => hdone listed s' G' a' W' hsz hp hr inv ra' r' hle, fun i hi => ?_⟩
      obtain ⟨hin, hl, hpr⟩ := mem_ready hsz hi
      have hmid : Mid ops s s' res i := ⟨inv.n, inv.defs, inv.outer, fun j d hj hd => inv.got j d (hpr j hj) hd⟩
      obtain ⟨k, hk, hH, hiff⟩ := inv.heap
      have hHi : kd i ≠ .pure → s'.H = HH i ∧ (∀ e, e < ops.size → kd e = .eff → (listed.getD e false = true ↔ e < i)) := by
        intro hnp
        have hiff' : ∀ e, e < ops.size → kd e = .eff → (listed.getD e false = true ↔ e < i) := by
          intro e he hke
          rcases Nat.lt_trichotomy e i with h | h | h
          · exact ⟨fun _ => h, fun _ => by
              cases (hm.order e i he hin hke hnp (by omega)).1 h with
              | one h => exact hpr e h
              | step h ha => exact inv.downA ha (hpr _ h)⟩
          · subst h; rw [hl]; simp
          · refine ⟨fun hle' => ?_, fun h' => by omega⟩
            have := inv.downA ((hm.order e i he hin hke hnp (by omega)).2 h) hle'
            rw [hl] at this; cases this
        refine ⟨?_, hiff'⟩
        rw [hH]
        rcases Nat.le_total k i with h | h
        · rw [show i = k + (i - k) by omega]
          refine (heaps_eq hHH (i - k) k (by omega) (fun e h1 h2 he => ?_)).symm
          have h3 := (hiff' e (by omega) he).2 (by omega)
          have := (hiff e (by omega) he).1 h3
          omega
        · rw [show k = i + (k - i) by omega]
          refine heaps_eq hHH (k - i) i (by omega) (fun e h1 h2 he => ?_)
          have h3 := (hiff e (by omega) he).2 (by omega)
          have := (hiff' e (by omega) he).1 h3
          omega
      have hcount : (List.range ops.size).countP (fun j => !(listed.setIfInBounds i true).getD j false) ≤ fuel := by
        have h1 : (List.range ops.size).countP (fun j => !(listed.setIfInBounds i true).getD j false) < (List.range ops.size).countP (fun j => !listed.getD j false) := by
          have hsplit : ∀ (l : List Nat), l.Nodup → i ∈ l → l.countP (fun j => !(listed.setIfInBounds i true).getD j false) + 1 = l.countP (fun j => !listed.getD j false) := by
            intro l
            induction l with
            | nil => intro _ h; cases h
            | cons x l ihl =>
              intro hnd hmem
              rw [List.nodup_cons] at hnd
              rw [List.countP_cons, List.countP_cons, listed_set (by omega)]
              by_cases hx : x = i
              · subst hx
                have : l.countP (fun j => !(listed.setIfInBounds x true).getD j false) = l.countP (fun j => !listed.getD j false) := by
                  apply List.countP_congr
                  intro j hj
                  rw [listed_set (by omega)]
                  have : j ≠ x := by rintro rfl; exact hnd.1 hj
                  simp [this]
                rw [this, hl]; simp
              · have hmem' : i ∈ l := by
                  rcases List.mem_cons.1 hmem with h | h
                  · exact absurd h.symm hx
                  · exact h
                have := ihl hnd.2 hmem'
                simp only [hx, decide_false, Bool.false_or]
                omega
          have := hsplit (List.range ops.size) List.nodup_range (List.mem_range.2 hin)
          omega
        omega
      by_cases hpi : ∃ v, pan = some (i, v)
      · obtain ⟨v, hv⟩ := hpi
        obtain ⟨_, _, hc'⟩ := hpan i v hv
        have hnp : kd i ≠ .pure := by rw [hpk i v hv]; simp
        have := hc' s' hmid (hHi hnp).1 (fun _ => False) Q (hpq i v hv s' inv.defs (hHi hnp).1) G' W' a' ra' r'
        unfold wpOp at this ⊢
        split
        · rename_i ho; rw [Array.getElem?_eq_getElem hin] at ho; cases ho
        · rename_i o' ho
          rw [ho] at this
          simp only at this
          split
          · rename_i hw; rw [if_pos hw] at this
            rcases this with h | ⟨h1, a2, w2, h2⟩
            · exact .inl (upon_mono (fun a w ⟨_, _, hf, _⟩ => hf.elim) (fun _ _ _ h => h.le hle) _ h)
            · exact .inr ⟨h1, a2, w2, h2.le hle⟩
          · rename_i hw; rw [if_neg hw] at this
            obtain ⟨_, _, hf, _⟩ := this
            exact hf.elim
      · have hcert := cert i hin (fun v hv => hpi ⟨v, hv⟩) s' hmid (fun h => (hHi h).1) ⟨k, hk, hH⟩
          (fun s'' => s'' = ASt.put { s' with H := if kd i = .eff then HH (i + 1) else s'.H } (dstOf ops i) (res i)) (fun _ _ => False) rfl G' W' a' ra' r'
        have hstep : ∀ a2 w2, liftN G' (fun s'' => s'' = ASt.put { s' with H := if kd i = .eff then HH (i + 1) else s'.H } (dstOf ops i) (res i)) a2 w2 → (∀ t, dstOf ops i ≠ some t → a2.tmps.getD t undef = a'.tmps.getD t undef) → wpAny P .any ops (lift G Q) fuel (listed.setIfInBounds i true) a2 w2 := by
          rintro a2 w2 ⟨s'', G'', rfl, ra2, r2, hle2⟩ hkeep
          have hsn : ∀ s3 : ASt, ∀ d v, (s3.put d v).H = s3.H ∧ (s3.put d v).n = s3.n ∧ (s3.put d v).defs = s3.defs := fun s3 d v => by cases d <;> exact ⟨rfl, rfl, rfl⟩
          have hlk : ∀ t, dstOf ops i ≠ some t → look t (ASt.put { s' with H := if kd i = .eff then HH (i + 1) else s'.H } (dstOf ops i) (res i)).env = look t s'.env := by
            intro t ht
            cases hd : dstOf ops i with
            | none => rfl
            | some d =>
              simp only [ASt.put, look]
              rw [if_neg (by rintro rfl; exact ht hd)]
          refine ih _ _ G'' a2 w2 (by simp [hsz]) hcount ?_ ?_ ra2 r2 (hle.trans hle2)
          · intro j v hv
            rw [listed_set (by omega)]
            have : j ≠ i := by rintro rfl; exact hpi ⟨v, hv⟩
            simp [this, hp j v hv]
          · refine ⟨(hsn _ _ _).2.1.trans inv.n, (hsn _ _ _).2.2.trans inv.defs, ?_, ?_, ?_, ?_⟩
            · intro t v ht hv
              rw [hlk t (ht i)]; exact inv.outer t v ht hv
            · intro j d hj hd
              rw [listed_set (by omega)] at hj
              by_cases e : j = i
              · subst e
                rw [hd]; simp [ASt.put, look]
              · simp only [e, decide_false, Bool.false_or] at hj
                have hjs : j < ops.size := by
                  rcases Nat.lt_or_ge j ops.size with h | h
                  · exact h
                  · unfold dstOf at hd; rw [Array.getElem?_eq_none h] at hd; simp at hd
                rw [hlk d (fun h => hm.apart i j d hin hjs (Ne.symm e) h hd)]
                exact inv.got j d hj hd
            · intro x y hx hy
              rw [listed_set (by omega)] at hx ⊢
              by_cases e : x = i
              · subst e; rw [hpr y hy]; simp
              · simp only [e, decide_false, Bool.false_or] at hx
                rw [inv.down x y hx hy]; simp
            · rw [(hsn _ _ _).1]
              by_cases he : kd i = .eff
              · have hnp : kd i ≠ .pure := by rw [he]; simp
                refine ⟨i + 1, hin, by simp [he], fun e hes hke => ?_⟩
                rw [listed_set (by omega)]
                have := (hHi hnp).2 e hes hke
                by_cases h : e = i
                · subst h; simp
                · simp only [h, decide_false, Bool.false_or, this]; omega
              · refine ⟨k, hk, by simp [he, hH], fun e hes hke => ?_⟩
                rw [listed_set (by omega)]
                have : e ≠ i := by rintro rfl; exact he hke
                simp only [this, decide_false, Bool.false_or]
                exact hiff e hes hke
        unfold wpOp at hcert ⊢
        split
        · rename_i ho; rw [Array.getElem?_eq_getElem hin] at ho; cases ho
        · rename_i o' ho
          rw [ho] at hcert
          simp only at hcert
          have hd' : dstOf ops i = o'.dst := by simp [dstOf, ho]
          have hput : ∀ x t, dstOf ops i ≠ some t → (a'.put o'.dst x).tmps.getD t undef = a'.tmps.getD t undef := by
            intro x t ht
            rw [hd'] at ht
            cases hdd : o'.dst with
            | none => rfl
            | some d =>
              have : d ≠ t := by rintro rfl; exact ht hdd
              simp [Act.put, Array.getD_eq_getD_getElem?, Array.getElem?_setIfInBounds, this]
          split
          · rename_i hw; rw [if_pos hw] at hcert
            rcases hcert with h | ⟨h1, a2, w2, _, _, _, h2, _⟩
            · left
              refine upon_mono (fun a w h => h) (fun _ _ _ h => h) _ (?_ : o'.wp P a' W' _ _)
              unfold Oper.wp at h ⊢
              generalize (execOp a'.eval o').run P W' = rs at h
              unfold Oper.upon at h ⊢
              split at h
              · exact hstep _ _ h (hput _)
              · exact hstep _ _ h (hput _)
              · rename_i dd w'
                refine hstep _ _ h (fun t ht => ?_)
                exact hput undef t ht ▸ by cases o'.dst <;> rfl
              · refine Calls.mono h ?_
                intro e w' he
                cases e with
                | returned v => exact hstep _ _ he (hput _)
                | panicked c => obtain ⟨_, _, _, hf, _⟩ := he; exact hf.elim
                | outgrown => obtain ⟨_, _, _, _, _, hf, _⟩ := he; exact hf.elim
              · exact Rows.mono h fun v w' hv => hstep _ _ hv (hput _)
              · obtain ⟨_, _, _, hf, _⟩ := h; exact hf.elim
              · exact h.elim
            · exact h2.elim
          · rename_i hw; rw [if_neg hw] at hcert
            exact hstep _ _ hcert (hput _)
  refine key ops.size _ s G a _ (by simp) ?_ ?_ ?_ ra (r.grow (Grow.drew W)) (.refl G)
  · refine Nat.le_trans List.countP_le_length (by simp)
  · intro i v hv; simp [Array.getD_eq_getD_getElem?, Array.getElem?_replicate]; split <;> simp
  · have hf : ∀ j, (Array.replicate ops.size false).getD j false = false := fun j => by
      simp [Array.getD_eq_getD_getElem?, Array.getElem?_replicate]; split <;> simp
    refine ⟨rfl, rfl, fun t v _ h => h, fun j d hj _ => ?_, fun i j hi _ => ?_, 0, Nat.zero_le _, h0.symm, fun e _ _ => ?_⟩
    · rw [hf j] at hj; cases hj
    · rw [hf i] at hi; cases hi
    · rw [hf e]; simp
end

end Go.Abs
