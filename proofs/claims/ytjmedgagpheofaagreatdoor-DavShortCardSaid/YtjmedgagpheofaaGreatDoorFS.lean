/- The abstract layer: a region that draws its order, whose new objects come at whatever time: each has a place of its own, laid out ahead. -/
import Derived.Test.YtjmedgagpheofaaGreatDoorFF
set_option linter.unusedSectionVars false
set_option linter.unusedVariables false
set_option linter.unusedSimpArgs false
set_option linter.constructorNameAsVariable false
namespace Go.Abs
open Go.RowKit
variable [Tabs]

theorem RD.monoS {G G' : Gh} (h : G.sub G') : ∀ {l : List (FuncId × List AV)} {ds : List Deferred}, RD G l ds → RD G' l ds
  | _, _, .nil => .nil
  | _, _, .cons hl hd => .cons (hl.monoS h) (RD.monoS h hd)
theorem RA.monoS {G G' : Gh} (h : G.sub G') {s : ASt} {a : Act} (r : RA G s a) : RA G' s a := ⟨r.size, fun t v hv => (r.env t v hv).monoS h, r.defs.monoS h⟩

theorem R.app_deads {G : Gh} {H : List AObj} {W : World} (r : R G H W) : ∀ m : Nat, R G (H ++ List.replicate m .dead) W
  | 0 => by simpa using r
  | m + 1 => by
    have := (R.app_deads r m).app_dead
    rwa [List.append_assoc, ← List.replicate_succ'] at this

theorem show_hide (D : Nat → Bool) (H : List AObj) : showL D 0 H (hideL D 0 H) = H := by
  apply List.ext_getElem?
  intro r
  rw [showL_get, hideL_get]
  cases hr : H[r]? with
  | none => simp
  | some o => cases hD : D (0 + r) <;> simp [hD]
theorem hide_hide {D E : Nat → Bool} (h : ∀ r, E r = true → D r = true) (H : List AObj) : hideL D 0 (hideL E 0 H) = hideL D 0 H := by
  apply List.ext_getElem?
  intro r
  rw [hideL_get, hideL_get, hideL_get]
  cases hr : H[r]? with
  | none => simp
  | some o =>
    cases hE : E (0 + r) with
    | false => simp [hE]
    | true =>
      have hD := h _ hE
      rw [Nat.zero_add] at hE hD
      simp [hE, hD]
theorem show_eff {D E : Nat → Bool} (h : ∀ r, E r = true → D r = true) {n : Nat} (hn : ∀ r, E r = true → r < n) {H H' : List AObj} (hl : n ≤ H.length) : showL D 0 (hideL E 0 H) H' = hideL E 0 (showL D 0 H H') := by
  apply List.ext_getElem?
  intro r
  rw [showL_get, hideL_get, hideL_get, showL_get]
  cases hr : H[r]? with
  | none =>
    cases hE : E (0 + r) with
    | false => cases H'[r]? <;> simp
    | true =>
      have := hn _ hE
      rw [List.getElem?_eq_none_iff] at hr
      omega
  | some o =>
    cases hE : E (0 + r) with
    | false => cases hD : D (0 + r) <;> cases H'[r]? <;> simp [hD]
    | true =>
      have hD := h _ hE
      rw [Nat.zero_add] at hE hD
      cases H'[r]? <;> simp [hE, hD]

/-- A rule for one operation at a heap of which a part is hidden. -/
theorem AOp1.frameS {P : Program} {ops : Array Oper} {i : Nat} {s : ASt} {D : Nat → Bool} {s1 : ASt} (h : AOp1 P ops i (fun s' => s' = s1) (fun _ _ => False) { s with H := hideL D 0 s.H }) {G : Gh} {W : World} {a : Act} (ra : RA G s a) (r : R G s.H W) {K : Exit → Act → World → Prop} :
    wpOp P ops K i (fun a' W' => ∃ G', RA G' { s1 with H := showL D 0 s.H s1.H } a' ∧ R G' (showL D 0 s.H s1.H) W' ∧ G.le G' ∧ ∀ q, q < s.H.length → D q = true → (∀ p, G'.place q = some p → G.place q = some p) ∧ ∀ m p, G'.gen q m = some p → G.gen q m = some p) a W := by
  have hh := h _ W a ⟨ra.size, fun t v hv => (ra.env t v hv).monoS (Gh.hide_sub D s.H.length W), ra.defs.monoS (Gh.hide_sub D s.H.length W)⟩ (r.hide D)
  have key : ∀ a' W', liftN (G.hide D s.H.length W) (fun s' => s' = s1) a' W' → ∃ G', RA G' { s1 with H := showL D 0 s.H s1.H } a' ∧ R G' (showL D 0 s.H s1.H) W' ∧ G.le G' ∧ ∀ q, q < s.H.length → D q = true → (∀ p, G'.place q = some p → G.place q = some p) ∧ ∀ m p, G'.gen q m = some p → G.gen q m = some p := by
    rintro a' W' ⟨s', G', rfl, ra', r', hle⟩
    obtain ⟨r2, hle2, hsub⟩ := r.unhide D hle r'
    refine ⟨_, ⟨ra'.size, fun t v hv => (ra'.env t v hv).monoS hsub, ra'.defs.monoS hsub⟩, r2, hle2, fun q hq hD => ⟨fun p hp => ?_, fun m p hp => ?_⟩⟩
    · rcases hle.newplace q p hp with h | h
      · exact h
      · exact absurd (.inr ⟨hq, hD⟩) h
    · rcases hle.newgen q m p hp with h | h
      · exact h
      · exact absurd (.inr ⟨hq, hD⟩) h
  have hK : ∀ e a' W', lift (G.hide D s.H.length W) (fun _ _ => False) e a' W' → K e a' W' := fun e a' W' ⟨_, _, _, h, _⟩ => h.elim
  unfold wpOp at hh ⊢
  split
  · rename_i ho; rw [ho] at hh; exact key _ _ hh
  · rename_i o ho
    rw [ho] at hh
    simp only at hh
    split
    · rename_i hw
      rw [if_pos hw] at hh
      rcases hh with h | ⟨h1, a2, w2, _, _, _, h2, _⟩
      · exact .inl (upon_mono key hK _ h)
      · exact h2.elim
    · rename_i hw
      rw [if_neg hw] at hh
      exact key _ _ hh

section
variable {P : Program} {Q : APost} {s : ASt} {ops : Array Oper}

theorem ready_neS {listed : Array Bool} (hback : ∀ i j, j ∈ preds ops i → j < i) (hsz : listed.size = ops.size) : ∀ (n i : Nat), i = n → i < ops.size → listed.getD i false = false → Region.ready .any ops listed ≠ [] := by
  intro n
  induction n using Nat.strongRecOn with
  | _ n ih =>
    intro i hin hi hl
    by_cases h : ∀ j ∈ preds ops i, listed.getD j false = true
    · have : i ∈ Region.ready .any ops listed := by
        unfold Region.ready
        rw [List.mem_filter, List.mem_range, Bool.and_eq_true]
        refine ⟨hi, ?_, ?_⟩
        · have : i < listed.size := by omega
          simp only [Array.getD, this, dif_pos] at hl ⊢
          simpa using hl
        · have ho : ops[i]? = some ops[i] := Array.getElem?_eq_getElem hi
          rw [ho]
          simp only [Option.map_some, Option.getD_some, Array.all_eq_true_iff_forall_mem, Bool.or_eq_true, Bool.not_eq_eq_eq_not, Bool.not_true]
          intro e he
          by_cases hb : Region.binds .any e = true
          · refine .inr (h _ ?_)
            unfold preds
            rw [ho]
            exact List.mem_map.2 ⟨e, List.mem_filter.2 ⟨by simpa using he, hb⟩, rfl⟩
          · exact .inl (by simpa using hb)
      intro he; rw [he] at this; cases this
    · have : ∃ j, j ∈ preds ops i ∧ listed.getD j false = false := by
        false_or_by_contra
        rename_i hc
        exact h fun j hj => by
          cases hx : listed.getD j false with
          | true => rfl
          | false => exact absurd ⟨j, hj, hx⟩ hc
      obtain ⟨j, hj, hlj⟩ := this
      have hlt := hback i j hj
      exact ih j (by omega) j rfl (by omega) hlj

/-- The places that are not laid yet. -/
def unl (ops : Array Oper) (sl : Nat → Option Nat) (listed : Array Bool) (r : Nat) : Bool := (List.range ops.size).any fun a => decide (sl a = some r) && !listed.getD a false
theorem unl_of {sl : Nat → Option Nat} {listed : Array Bool} {r : Nat} (h : unl ops sl listed r = true) : ∃ a, a < ops.size ∧ sl a = some r ∧ listed.getD a false = false := by
  unfold unl at h
  obtain ⟨a, ha, h⟩ := List.any_eq_true.1 h
  rw [Bool.and_eq_true] at h
  exact ⟨a, List.mem_range.1 ha, of_decide_eq_true h.1, by simpa using h.2⟩
theorem of_unl {sl : Nat → Option Nat} {listed : Array Bool} {r a : Nat} (h1 : a < ops.size) (h2 : sl a = some r) (h3 : listed.getD a false = false) : unl ops sl listed r = true :=
  List.any_eq_true.2 ⟨a, List.mem_range.2 h1, by simp [h2, h3]⟩

structure InvS (ops : Array Oper) (kd : Nat → Kd) (s : ASt) (res : Nat → AV) (sl : Nat → Option Nat) (HH : Nat → List AObj) (listed : Array Bool) (s' : ASt) : Prop where
  n : s'.n = s.n
  defs : s'.defs = s.defs
  outer : ∀ t v, (∀ j, dstOf ops j ≠ some t) → look t s.env = some v → look t s'.env = some v
  got : ∀ j d, listed.getD j false = true → dstOf ops j = some d → look d s'.env = some (res j)
  down : ∀ i j, listed.getD i false = true → j ∈ preds ops i → listed.getD j false = true
  heap : ∃ k, k ≤ ops.size ∧ s'.H = hideL (unl ops sl listed) 0 (HH k) ∧ ∀ e, e < ops.size → kd e = .eff → (listed.getD e false = true ↔ e < k)
theorem InvS.downA {kd : Nat → Kd} {res : Nat → AV} {sl : Nat → Option Nat} {HH : Nat → List AObj} {listed : Array Bool} {s s' : ASt} (inv : InvS ops kd s res sl HH listed s') {e i : Nat} (h : Anc ops e i) : listed.getD i false = true → listed.getD e false = true := by
  induction h with
  | one h => exact fun hl => inv.down _ _ hl h
  | step h _ ih => exact fun hl => ih (inv.down _ _ hl h)

/-- What is asked of the region's own make: 'rd' tells which one object a quiet operation reads (none: any). -/
structure MakeS (ops : Array Oper) (kd : Nat → Kd) (rd : Nat → Option Nat) (St : Nat → Nat → Prop) : Prop where
  back : ∀ i j, j ∈ preds ops i → j < i
  apart : ∀ i j d, i < ops.size → j < ops.size → i ≠ j → dstOf ops i = some d → dstOf ops j ≠ some d
  order : ∀ e i, e < ops.size → i < ops.size → kd e = .eff → kd i ≠ .pure → e ≠ i → ((e < i → Anc ops e i) ∧ (i < e → Anc ops i e)) ∨ (kd i = .quiet ∧ ∃ k, rd i = some k ∧ St e k)

/-- What is asked of the places. -/
structure Slots (ops : Array Oper) (kd : Nat → Kd) (s : ASt) (sl : Nat → Option Nat) (D : Nat → Nat → Bool) (m : Nat) (HH HE : Nat → List AObj) : Prop where
  base : ∀ i r, sl i = some r → i < ops.size ∧ kd i = .pure ∧ s.H.length ≤ r ∧ r < s.H.length + m
  inj : ∀ i j r, sl i = some r → sl j = some r → i = j
  vis : ∀ i r, i < ops.size → D i r = false → ∀ a, sl a = some r → Anc ops a i
  len : ∀ i, i ≤ ops.size → s.H.length + m ≤ (HH i).length
  keep : ∀ i, i < ops.size → kd i ≠ .eff → HH (i + 1) = HH i
  eff : ∀ i, i < ops.size → kd i = .eff → HH (i + 1) = showL (D i) 0 (HH i) (HE i)

theorem c_region_slots {id : Nat} {kd : Nat → Kd} (hmo : P.follows .mixedOrders = true) (res : Nat → AV) (sl : Nat → Option Nat) (rd : Nat → Option Nat) (D : Nat → Nat → Bool) (m : Nat) (St : Nat → Nat → Prop) (hm : MakeS ops kd rd St) (HH HE : Nat → List AObj) (hs : Slots ops kd s sl D m HH HE)
    (hstill : ∀ e q, e < ops.size → kd e = .eff → St e q → (HH (e + 1))[q]? = (HH e)[q]?)
    (h0 : hideL (unl ops sl (Array.replicate ops.size false)) 0 (HH 0) = s.H ++ List.replicate m .dead)
    (acert : ∀ i r o, sl i = some r → (HH 0)[r]? = some o → ∀ s' G W a, Mid ops s s' res i → RA G s' a → R G s'.H W → s'.H[r]? = some .dead → G.place r = none → (∀ m, G.gen r m = none) → ¬ G.fixed r →
      wpOp P ops (fun _ _ _ => False) i (fun a' W' => ∃ G', RA G' (ASt.put { s' with H := s'.H.set r o } (dstOf ops i) (res i)) a' ∧ R G' (s'.H.set r o) W' ∧ G.le G' ∧ ∀ q, q ≠ r → G'.place q = G.place q ∧ ∀ m, G'.gen q m = G.gen q m) a W)
    (cert : ∀ i, i < ops.size → sl i = none → ∀ s', Mid ops s s' res i → (kd i = .eff → s'.H = hideL (D i) 0 (HH i)) → (kd i = .quiet → (rd i = none → s'.H = hideL (D i) 0 (HH i)) ∧ ∀ q, rd i = some q → s'.H[q]? = (hideL (D i) 0 (HH i))[q]?) → (∃ j, j ≤ ops.size ∧ s'.H = hideL (D i) 0 (HH j)) → ∀ N Q, N (ASt.put { s' with H := if kd i = .eff then HE i else s'.H } (dstOf ops i) (res i)) → AOp1 P ops i N Q s')
    (hQ : Q .normal { s with env := withRes ops res (List.range ops.size) s.env, H := HH ops.size }) : ACode P (.region id ops true) Q s := by
  intro G W a ra r
  refine wp_region_any hmo ?_
  have key : ∀ (fuel : Nat) (listed : Array Bool) (s' : ASt) (G' : Gh) (a' : Act) (W' : World), listed.size = ops.size → (List.range ops.size).countP (fun i => !listed.getD i false) ≤ fuel → InvS ops kd s res sl HH listed s' → RA G' s' a' → R G' s'.H W' → G.le G' →
      (∀ q, unl ops sl listed q = true → G'.place q = none ∧ ∀ m, G'.gen q m = none) → wpAny P .any ops (lift G Q) fuel listed a' W' := by
    have hdone : ∀ (listed : Array Bool) (s' : ASt) (G' : Gh) (a' : Act) (W' : World), listed.size = ops.size → Region.ready .any ops listed = [] → InvS ops kd s res sl HH listed s' → RA G' s' a' → R G' s'.H W' → G.le G' → lift G Q .normal a' W' := by
      intro listed s' G' a' W' hsz hr inv ra' r' hle
      have hall : ∀ i, i < ops.size → listed.getD i false = true := fun i hi => by
        cases hx : listed.getD i false with
        | true => rfl
        | false => exact absurd hr (ready_neS hm.back hsz i i rfl hi hx)
      obtain ⟨k, hk, hH, hiff⟩ := inv.heap
      have hun : ∀ q, unl ops sl listed q = false := fun q => by
        cases hx : unl ops sl listed q with
        | false => rfl
        | true =>
          obtain ⟨b, hb, _, hl⟩ := unl_of hx
          rw [hall b hb] at hl; cases hl
      have hHk : s'.H = HH ops.size := by
        rw [hH, show ops.size = k + (ops.size - k) by omega, heaps_eq hs.keep (ops.size - k) k (by omega) (fun e h1 h2 he => by
          have := (hiff e (by omega) he).1 (hall e (by omega)); omega)]
        apply List.ext_getElem?
        intro q
        rw [hideL_get]
        simp [hun]
      refine ⟨.normal, _, G', hQ, .normal, ⟨ra'.size.trans inv.n, ?_, inv.defs ▸ ra'.defs⟩, hHk ▸ r', hle⟩
      intro t v hv
      rcases look_withRes hv with ⟨i, hi, h1, h2⟩ | ⟨h1, h2⟩
      · subst h2
        exact ra'.env t _ (inv.got i t (hall i (List.mem_range.1 hi)) h1)
      · refine ra'.env t v (inv.outer t v (fun j => ?_) h2)
        by_cases hj : j < ops.size
        · exact h1 j (List.mem_range.2 hj)
        · unfold dstOf; rw [Array.getElem?_eq_none (by omega)]; simp
    intro fuel
    induction fuel with
    | zero =>
      intro listed s' G' a' W' hsz hc inv ra' r' hle hpl
      have hr : Region.ready .any ops listed = [] := by
        cases hx : Region.ready .any ops listed with
        | nil => rfl
        | cons i l =>
          obtain ⟨hi, hl, _⟩ := mem_ready hsz (by rw [hx]; exact List.mem_cons_self)
          have : 0 < (List.range ops.size).countP (fun i => !listed.getD i false) := List.countP_pos_iff.2 ⟨i, List.mem_range.2 hi, by rw [hl]; rfl⟩
          omega
      exact ⟨hr, hdone listed s' G' a' W' hsz hr inv ra' r' hle⟩
    | succ fuel ih =>
      intro listed s' G' a' W' hsz hc inv ra' r' hle hpl
      refine ⟨fun hr => hdone listed s' G' a' W' hsz hr inv ra' r' hle, fun i hi => ?_⟩
      obtain ⟨hin, hl, hpr⟩ := mem_ready hsz hi
      have hmid : Mid ops s s' res i := ⟨inv.n, inv.defs, inv.outer, fun j d hj hd => inv.got j d (hpr j hj) hd⟩
      have hanc : ∀ e, Anc ops e i → listed.getD e false = true := fun e h => by
        cases h with
        | one h => exact hpr e h
        | step h ha => exact inv.downA ha (hpr _ h)
      obtain ⟨k, hk, hH, hiff⟩ := inv.heap
      have hHi : (∀ e, e < ops.size → kd e = .eff → e ≠ i → (e < i → Anc ops e i) ∧ (i < e → Anc ops i e)) → HH k = HH i ∧ (∀ e, e < ops.size → kd e = .eff → (listed.getD e false = true ↔ e < i)) := by
        intro hord
        have hiff' : ∀ e, e < ops.size → kd e = .eff → (listed.getD e false = true ↔ e < i) := by
          intro e he hke
          rcases Nat.lt_trichotomy e i with h | h | h
          · exact ⟨fun _ => h, fun _ => hanc e ((hord e he hke (by omega)).1 h)⟩
          · subst h; rw [hl]; simp
          · refine ⟨fun hle' => ?_, fun h' => by omega⟩
            have := inv.downA ((hord e he hke (by omega)).2 h) hle'
            rw [hl] at this; cases this
        refine ⟨?_, hiff'⟩
        rcases Nat.le_total k i with h | h
        · rw [show i = k + (i - k) by omega]
          refine (heaps_eq hs.keep (i - k) k (by omega) (fun e h1 h2 he => ?_)).symm
          have h3 := (hiff' e (by omega) he).2 (by omega)
          have := (hiff e (by omega) he).1 h3
          omega
        · rw [show k = i + (k - i) by omega]
          refine heaps_eq hs.keep (k - i) i (by omega) (fun e h1 h2 he => ?_)
          have h3 := (hiff e (by omega) he).2 (by omega)
          have := (hiff' e (by omega) he).1 h3
          omega
      have hordE : kd i = .eff → ∀ e, e < ops.size → kd e = .eff → e ≠ i → (e < i → Anc ops e i) ∧ (i < e → Anc ops i e) := fun hk e he hke hne => by
        rcases hm.order e i he hin hke (by rw [hk]; simp) hne with h | ⟨h, _⟩
        · exact h
        · rw [hk] at h; cases h
      have hordN : kd i = .quiet → rd i = none → ∀ e, e < ops.size → kd e = .eff → e ≠ i → (e < i → Anc ops e i) ∧ (i < e → Anc ops i e) := fun hk hr e he hke hne => by
        rcases hm.order e i he hin hke (by rw [hk]; simp) hne with h | ⟨_, q, h, _⟩
        · exact h
        · rw [hr] at h; cases h
      have hone : ∀ q, kd i = .quiet → rd i = some q → (HH k)[q]? = (HH i)[q]? := by
        intro q hk hr
        have step : ∀ e, e < ops.size → ((k ≤ e ∧ e < i) ∨ (i ≤ e ∧ e < k)) → (HH (e + 1))[q]? = (HH e)[q]? := by
          intro e he hb
          by_cases hke : kd e = .eff
          · have hne : e ≠ i := by rintro rfl; rw [hk] at hke; cases hke
            rcases hm.order e i he hin hke (by rw [hk]; simp) hne with ⟨h1, h2⟩ | ⟨_, q', hq', hD⟩
            · rcases hb with hb | hb
              · have := (hiff e he hke).1 (hanc e (h1 hb.2)); omega
              · have h3 := (hiff e he hke).2 hb.2
                have := inv.downA (h2 (by omega)) h3
                rw [hl] at this; cases this
            · rw [hr] at hq'; cases hq'
              exact hstill e q he hke hD
          · rw [hs.keep e he hke]
        have walk : ∀ d a, (∀ e, a ≤ e → e < a + d → (HH (e + 1))[q]? = (HH e)[q]?) → (HH (a + d))[q]? = (HH a)[q]? := by
          intro d
          induction d with
          | zero => intro a _; rfl
          | succ d ih =>
            intro a h
            rw [← Nat.add_assoc, h (a + d) (by omega) (by omega)]
            exact ih a (fun e h1 h2 => h e h1 (by omega))
        rcases Nat.le_total k i with h | h
        · have := walk (i - k) k (fun e h1 h2 => step e (by omega) (.inl ⟨h1, by omega⟩))
          rw [show k + (i - k) = i by omega] at this
          exact this.symm
        · have := walk (k - i) i (fun e h1 h2 => step e (by omega) (.inr ⟨h1, by omega⟩))
          rw [show i + (k - i) = k by omega] at this
          exact this
      have hcount : (List.range ops.size).countP (fun j => !(listed.setIfInBounds i true).getD j false) ≤ fuel := by
        have h1 : (List.range ops.size).countP (fun j => !(listed.setIfInBounds i true).getD j false) < (List.range ops.size).countP (fun j => !listed.getD j false) := by
          have hsplit : ∀ (l : List Nat), l.Nodup → i ∈ l → l.countP (fun j => !(listed.setIfInBounds i true).getD j false) + 1 = l.countP (fun j => !listed.getD j false) := by
            intro l
            induction l with
            | nil => intro _ h; cases h
            | cons x l ihl =>
              intro hnd hmem
              rw [List.nodup_cons] at hnd
              rw [List.countP_cons, List.countP_cons, listed_set (by omega)]
              by_cases hx : x = i
              · subst hx
                have : l.countP (fun j => !(listed.setIfInBounds x true).getD j false) = l.countP (fun j => !listed.getD j false) := by
                  apply List.countP_congr
                  intro j hj
                  rw [listed_set (by omega)]
                  have : j ≠ x := by rintro rfl; exact hnd.1 hj
                  simp [this]
                rw [this, hl]; simp
              · have hmem' : i ∈ l := by
                  rcases List.mem_cons.1 hmem with h | h
                  · exact absurd h.symm hx
                  · exact h
                have := ihl hnd.2 hmem'
                simp only [hx, decide_false, Bool.false_or]
                omega
          have := hsplit (List.range ops.size) List.nodup_range (List.mem_range.2 hin)
          omega
        omega
      have hsn : ∀ s3 : ASt, ∀ d v, (s3.put d v).H = s3.H ∧ (s3.put d v).n = s3.n ∧ (s3.put d v).defs = s3.defs := fun s3 d v => by cases d <;> exact ⟨rfl, rfl, rfl⟩
      -- what the operation leaves: the heap H2
      have hnext : ∀ (H2 : List AObj), (∃ k', k' ≤ ops.size ∧ H2 = hideL (unl ops sl (listed.setIfInBounds i true)) 0 (HH k') ∧ ∀ e, e < ops.size → kd e = .eff → ((listed.setIfInBounds i true).getD e false = true ↔ e < k')) →
          InvS ops kd s res sl HH (listed.setIfInBounds i true) (ASt.put { s' with H := H2 } (dstOf ops i) (res i)) := by
        intro H2 hheap
        have hlk : ∀ t, dstOf ops i ≠ some t → look t (ASt.put { s' with H := H2 } (dstOf ops i) (res i)).env = look t s'.env := by
          intro t ht
          cases hd : dstOf ops i with
          | none => rfl
          | some d =>
            simp only [ASt.put, look]
            rw [if_neg (by rintro rfl; exact ht hd)]
        refine ⟨(hsn _ _ _).2.1.trans inv.n, (hsn _ _ _).2.2.trans inv.defs, ?_, ?_, ?_, ?_⟩
        · intro t v ht hv
          rw [hlk t (ht i)]; exact inv.outer t v ht hv
        · intro j d hj hd
          rw [listed_set (by omega)] at hj
          by_cases e : j = i
          · subst e
            rw [hd]; simp [ASt.put, look]
          · simp only [e, decide_false, Bool.false_or] at hj
            have hjs : j < ops.size := by
              rcases Nat.lt_or_ge j ops.size with h | h
              · exact h
              · unfold dstOf at hd; rw [Array.getElem?_eq_none h] at hd; simp at hd
            rw [hlk d (fun h => hm.apart i j d hin hjs (Ne.symm e) h hd)]
            exact inv.got j d hj hd
        · intro x y hx hy
          rw [listed_set (by omega)] at hx ⊢
          by_cases e : x = i
          · subst e; rw [hpr y hy]; simp
          · simp only [e, decide_false, Bool.false_or] at hx
            rw [inv.down x y hx hy]; simp
        · rw [(hsn _ _ _).1]; exact hheap
      have hun' : ∀ q, unl ops sl (listed.setIfInBounds i true) q = true → unl ops sl listed q = true ∧ sl i ≠ some q := by
        intro q h
        obtain ⟨b, hb, h1, h2⟩ := unl_of h
        rw [listed_set (by omega)] at h2
        have hbi : b ≠ i := by rintro rfl; simp at h2
        simp only [hbi, decide_false, Bool.false_or] at h2
        exact ⟨of_unl hb h1 h2, fun h => hbi (hs.inj _ _ _ h1 h)⟩
      have hlenH : s'.H.length = (HH k).length := by rw [hH, hideL_length]
      cases hsi : sl i with
      | some q =>
        obtain ⟨_, hkp, hq1, hq2⟩ := hs.base i q hsi
        have hql : q < (HH k).length := by have := hs.len k hk; omega
        have hu : unl ops sl listed q = true := of_unl hin hsi hl
        obtain ⟨hp0, hg0⟩ := hpl q hu
        have hdead : s'.H[q]? = some .dead := by
          rw [hH, hideL_get, List.getElem?_eq_getElem hql]; simp [hu]
        -- the place's content is what it was laid out to be
        have hsame : ∀ j, j ≤ k → (HH j)[q]? = (HH 0)[q]? := by
          intro j
          induction j with
          | zero => intro _; rfl
          | succ j ihj =>
            intro hj
            by_cases he : kd j = .eff
            · rw [hs.eff j (by omega) he, showL_get]
              have hD : D j q = true := by
                cases hx : D j q with
                | true => rfl
                | false =>
                  have h1 := hs.vis j q (by omega) hx i hsi
                  have h2 := inv.downA h1 ((hiff j (by omega) he).2 (by omega))
                  rw [hl] at h2; cases h2
              have hlj := hs.len j (by omega)
              have hlj' := hs.len (j + 1) (by omega)
              rw [hs.eff j (by omega) he, showL_length] at hlj'
              rw [List.getElem?_eq_getElem (show q < (HE j).length by omega), ← ihj (by omega), List.getElem?_eq_getElem (show q < (HH j).length by omega)]
              simp [hD]
            · rw [hs.keep j (by omega) he]; exact ihj (by omega)
        have hl0 := hs.len 0 (by omega)
        have ho : (HH 0)[q]? = some ((HH 0)[q]'(by omega)) := List.getElem?_eq_getElem (by omega)
        have hf : ¬ G'.fixed q := by
          rw [hle.fixed]
          intro hfx
          have h1 := r.fixed q hfx
          rw [List.getElem?_eq_none (by omega)] at h1; cases h1
        have hac := acert i q _ hsi ho s' G' W' a' hmid ra' r' hdead hp0 hg0 hf
        have hac2 : wpOp P ops (lift G Q) i (fun a' W' => ∃ G'', RA G'' (ASt.put { s' with H := s'.H.set q ((HH 0)[q]'(by omega)) } (dstOf ops i) (res i)) a' ∧ R G'' (s'.H.set q ((HH 0)[q]'(by omega))) W' ∧ G'.le G'' ∧ ∀ z, z ≠ q → G''.place z = G'.place z ∧ ∀ m, G''.gen z m = G'.gen z m) a' W' := by
          unfold wpOp at hac ⊢
          split
          · rename_i ho'; rw [ho'] at hac; exact hac
          · rename_i o' ho'
            rw [ho'] at hac
            simp only at hac
            split
            · rename_i hw
              rw [if_pos hw] at hac
              rcases hac with h | ⟨_, _, _, h⟩
              · exact .inl (upon_mono (fun _ _ h => h) (fun _ _ _ h => h.elim) _ h)
              · exact h.elim
            · rename_i hw; rw [if_neg hw] at hac; exact hac
        refine wpOp_mono ?_ hac2
        rintro a2 w2 ⟨G'', ra2, r2, hle2, hoth⟩
        refine ih _ _ G'' a2 w2 (by simp [hsz]) hcount (hnext _ ⟨k, hk, ?_, fun e he hke => ?_⟩) ra2 (by rw [(hsn _ _ _).1]; exact r2) (hle.trans hle2) (fun z hz => ?_)
        · apply List.ext_getElem?
          intro z
          rw [hideL_get, Nat.zero_add]
          by_cases e : z = q
          · subst e
            have hun : unl ops sl (listed.setIfInBounds i true) z = false := by
              cases hx : unl ops sl (listed.setIfInBounds i true) z with
              | false => rfl
              | true => exact absurd hsi (hun' z hx).2
            rw [List.getElem?_set_self (by omega), hsame k (Nat.le_refl _), ho, hun]; simp
          · rw [List.getElem?_set_ne (Ne.symm e), hH, hideL_get, Nat.zero_add]
            have hun : unl ops sl (listed.setIfInBounds i true) z = unl ops sl listed z := by
              cases hx : unl ops sl (listed.setIfInBounds i true) z with
              | true => exact (hun' z hx).1.symm
              | false =>
                cases hy : unl ops sl listed z with
                | false => rfl
                | true =>
                  obtain ⟨b, hb, h1, h2⟩ := unl_of hy
                  have hbi : b ≠ i := by rintro rfl; rw [h1] at hsi; exact e (Option.some.inj hsi)
                  rw [← hx]
                  exact (of_unl hb h1 (by rw [listed_set (listed := listed) (i := i) (j := b) (by omega)]; simp [hbi, h2]))
            rw [hun]
        · rw [listed_set (by omega)]
          have : e ≠ i := by rintro rfl; rw [hkp] at hke; cases hke
          simp only [this, decide_false, Bool.false_or]
          exact hiff e he hke
        · obtain ⟨h1, h2⟩ := hun' z hz
          have hzq : z ≠ q := by rintro rfl; exact h2 hsi
          obtain ⟨g1, g2⟩ := hoth z hzq
          obtain ⟨p1, p2⟩ := hpl z h1
          exact ⟨g1.trans p1, fun m => (g2 m).trans (p2 m)⟩
      | none =>
        have hDu : ∀ z, unl ops sl listed z = true → D i z = true := by
          intro z hz
          obtain ⟨b, hb, h1, h2⟩ := unl_of hz
          cases hx : D i z with
          | true => rfl
          | false =>
            have := hanc b (hs.vis i z hin hx b h1)
            rw [h2] at this; cases this
        have hhide : hideL (D i) 0 s'.H = hideL (D i) 0 (HH k) := by rw [hH, hide_hide hDu]
        have hmid2 : Mid ops s { s' with H := hideL (D i) 0 s'.H } res i := ⟨hmid.n, hmid.defs, hmid.outer, hmid.preds⟩
        have hc1 := cert i hin hsi { s' with H := hideL (D i) 0 s'.H } hmid2 (fun he => by rw [← (hHi (hordE he)).1]; exact hhide)
          (fun hqu => ⟨fun hr => by rw [← (hHi (hordN hqu hr)).1]; exact hhide, fun q hr => by
            show (hideL (D i) 0 s'.H)[q]? = _
            rw [hhide, hideL_get, hideL_get, hone q hqu hr]⟩) ⟨k, hk, hhide⟩
          (fun s1 => s1 = ASt.put { s' with H := if kd i = .eff then HE i else hideL (D i) 0 s'.H } (dstOf ops i) (res i)) (fun _ _ => False) rfl
        have hfr := AOp1.frameS (s := s') (D := D i) hc1 ra' r' (K := lift G Q)
        refine wpOp_mono ?_ hfr
        rintro a2 w2 ⟨G'', ra2, r2, hle2, hoth⟩
        rw [(hsn _ _ _).1] at ra2 r2
        have e1 : ∀ (H3 H4 : List AObj), ({ ASt.put { s' with H := H3 } (dstOf ops i) (res i) with H := H4 } : ASt) = ASt.put { s' with H := H4 } (dstOf ops i) (res i) := fun H3 H4 => by cases dstOf ops i <;> rfl
        rw [e1] at ra2
        have hun : unl ops sl (listed.setIfInBounds i true) = unl ops sl listed := by
          funext z
          cases hx : unl ops sl (listed.setIfInBounds i true) z with
          | true => exact (hun' z hx).1.symm
          | false =>
            cases hy : unl ops sl listed z with
            | false => rfl
            | true =>
              obtain ⟨b, hb, h1, h2⟩ := unl_of hy
              have hbi : b ≠ i := by rintro rfl; rw [h1] at hsi; cases hsi
              rw [← hx]
              exact (of_unl hb h1 (by rw [listed_set (listed := listed) (i := i) (j := b) (by omega)]; simp [hbi, h2]))
        refine ih _ _ G'' a2 w2 (by simp [hsz]) hcount (hnext _ ?_) ra2 (by rw [(hsn _ _ _).1]; exact r2) (hle.trans hle2) (fun z hz => ?_)
        · rw [hun]
          by_cases he : kd i = .eff
          · have hnp := hordE he
            refine ⟨i + 1, hin, ?_, fun e hes hke => ?_⟩
            · rw [if_pos he, hH, (hHi hnp).1, hs.eff i hin he]
              exact show_eff hDu (fun z hz => by
                obtain ⟨b, _, h1, _⟩ := unl_of hz
                exact (hs.base b z h1).2.2.2) (hs.len i (by omega))
            · rw [listed_set (by omega)]
              have := (hHi hnp).2 e hes hke
              by_cases h : e = i
              · subst h; simp
              · simp only [h, decide_false, Bool.false_or, this]; omega
          · refine ⟨k, hk, by rw [if_neg he, show_hide, hH], fun e hes hke => ?_⟩
            rw [listed_set (by omega)]
            have : e ≠ i := by rintro rfl; exact he hke
            simp only [this, decide_false, Bool.false_or]
            exact hiff e hes hke
        · obtain ⟨h1, _⟩ := hun' z hz
          obtain ⟨b, _, h3, _⟩ := unl_of h1
          obtain ⟨_, _, hz1, hz2⟩ := hs.base b z h3
          have hzl : z < s'.H.length := by rw [hlenH]; have := hs.len k hk; omega
          obtain ⟨g1, g2⟩ := hoth z hzl (hDu z h1)
          obtain ⟨p1, p2⟩ := hpl z h1
          refine ⟨?_, fun m => ?_⟩
          · cases hx : G''.place z with
            | none => rfl
            | some p => rw [g1 p hx] at p1; cases p1
          · cases hx : G''.gen z m with
            | none => rfl
            | some p => have := p2 m; rw [g2 m p hx] at this; cases this
  have hf : ∀ j, (Array.replicate ops.size false).getD j false = false := fun j => by
    simp [Array.getD_eq_getD_getElem?, Array.getElem?_replicate]; split <;> simp
  have hr0 : R G (s.H ++ List.replicate m .dead) W := r.app_deads m
  refine key ops.size _ { s with H := s.H ++ List.replicate m .dead } G a _ (by simp) (Nat.le_trans List.countP_le_length (by simp)) ?_ ⟨ra.size, ra.env, ra.defs⟩ (hr0.grow (Grow.drew W)) (.refl G) (fun q hq => ?_)
  · refine ⟨rfl, rfl, fun t v _ h => h, fun j d hj _ => ?_, fun i j hi _ => ?_, 0, Nat.zero_le _, h0.symm, fun e _ _ => ?_⟩
    · rw [hf j] at hj; cases hj
    · rw [hf i] at hi; cases hi
    · rw [hf e]; simp
  · obtain ⟨b, _, h3, _⟩ := unl_of hq
    obtain ⟨_, _, hz1, _⟩ := hs.base b q h3
    exact ⟨r.place_none hz1, r.gen_none hz1⟩
end
end Go.Abs
