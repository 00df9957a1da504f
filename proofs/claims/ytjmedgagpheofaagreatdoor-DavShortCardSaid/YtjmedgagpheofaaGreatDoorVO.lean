/- More rules: 'append' of nothing; '==' of pairs of texts. -/
import Derived.Test.YtjmedgagpheofaaGreatDoorXF
set_option linter.unusedSectionVars false
set_option linter.unusedVariables false
set_option linter.unusedSimpArgs false
set_option linter.constructorNameAsVariable false
namespace Go.Abs
open Go.RowKit
variable [Tabs]
section
variable {P : Program} {Q : APost} {s : ASt} {N : ASt → Prop} {o : Oper}

theorem op_append_zero {t tx e e' : TypeId} {x y : Operand} {k bytes : Nat} {xs : List AV} {tok : Option Nat} (ho : o.op = .call { callee := .builtin .append, args := #[x, y], argTypes := #[t, tx] }) (hd : dstOK o.dst s.n = true)
    (ht : P.underlying t = some (.slice e)) (he : elI P e k bytes = true) (htx : P.underlying tx = some (.slice e')) (hne : 0 < xs.length) (hx : s.ev x = some (.lst xs tok)) (hy : s.ev y = some .nils) (h : N (s.put o.dst (.lst xs tok))) : AOp P o N Q s := by
  refine op_gen (s' := s) rfl rfl rfl hd (fun G W a ra r => ?_) h
  obtain ⟨i, z, hi, hik, hib, hiz, hzk⟩ := elI_info he
  obtain ⟨news, hsrc, hnrel⟩ := src_rel (P := P) (W := W) r .nils (ev_eval ra hy) (k := k) (.inl htx) (by simp) (by simp) (by simp) (fun _ => htx)
  have hnl := hnrel.length
  have hn0 : news = [] := List.eq_nil_of_length_eq_zero (by simpa using hnl.symm)
  subst hn0
  have hrel := ev_eval ra hx
  generalize hev : a.eval x = vx at hrel
  cases hrel with
  | lnil => simp at hne
  | @lst k' _ _ vs b o' cap hl hk' hc htok hcap =>
    subst hik
    have hrun := run_append_room_src (P := P) W t tx o.type e i ht hi b o' xs.length cap (a.eval y) 0 [] hsrc (by simpa using hcap) (by simp) (by simp)
    rw [← hev] at hrun
    refine ⟨_, G, _, append_run ho hrun, ?_, ?_, .refl G⟩
    · exact .lst hl hk' hc htok hcap
    · simpa [World.setCells] using r

def eq2T (P : Program) (t : TypeId) : Bool := match P.underlying t with
  | some (.struct fs) => match fs.toList with
    | [f, g] => !(f.name == "_") && !(g.name == "_") && Nat.beq f.offset 0 && Nat.beq g.offset 1 && (match P.underlying f.type, P.underlying g.type with
      | some .string, some .string => !P.stoodInHeld t && !P.eqGuardType P.depth t
      | _, _ => false)
    | _ => false
  | _ => false
theorem eq2_run {t : TypeId} (h : eq2T P t = true) (a b c d : ByteArray) (W : World) : (Op.equal t (.agg #[.string a, .string b]) (.agg #[.string c, .string d])).run P W = .ok (a == c && b == d) W := by
  unfold eq2T at h
  split at h
  · rename_i fs ht
    split at h
    · rename_i f g hfs
      have hfs : fs = #[f, g] := by apply Array.ext'; simpa using hfs
      subst hfs
      simp only [Bool.and_eq_true, Bool.not_eq_true', beq_eq_false_iff_ne] at h
      obtain ⟨⟨⟨⟨h1, h2⟩, h3⟩, h4⟩, h5⟩ := h
      have h3 := Nat.eq_of_beq_eq_true h3
      have h4 := Nat.eq_of_beq_eq_true h4
      split at h5
      · rename_i hf hg
        simp only [Bool.and_eq_true, Bool.not_eq_true'] at h5
        have e : ∀ n, (Op.equalIn (n + 2) t (.agg #[.string a, .string b]) (.agg #[.string c, .string d])).run P W = .ok (a == c && b == d) W := by
          intro n
          have e1 : (Op.equalIn (n + 1) f.type (.string a) (.string c)).run P W = .ok (a == c) W := by simp [Op.equalIn, underlying, hf]
          have e2 : (Op.equalIn (n + 1) g.type (.string b) (.string d)).run P W = .ok (b == d) W := by simp [Op.equalIn, underlying, hg]
          have p1 : ∀ z w : Value, (part f.type #[z, w] f.offset).run P W = .ok z W := by intro z w; simp [part, isAgg, underlying, hf, h3]
          have p2 : ∀ z w : Value, (part g.type #[z, w] g.offset).run P W = .ok w W := by intro z w; simp [part, isAgg, underlying, hg, h4]
          rw [Op.equalIn.eq_def]
          simp only [underlying, ht, Sem.run_bind, run_program, Result.andThen_ok, Sem.run_pure]
          cases hac : (a == c) <;> cases hbd : (b == d) <;> (rw [hac] at e1; rw [hbd] at e2; simp [h5.1, h1, h2, p1, p2, e1, e2])
        exact e 9998
      · simp at h5
    · simp at h
  · simp at h
theorem op_eq2 {op : BinOp} {t u : TypeId} {x y : Operand} {a b c d : Str} {r : Bool} (ho : o.op = .binOp op t x y u) (hd : dstOK o.dst s.n = true) (h : eq2T P t = true) (hx : s.ev x = some (.agg [.str a, .str b])) (hy : s.ev y = some (.agg [.str c, .str d]))
    (hop : (op = .eql ∧ r = (a == c && b == d)) ∨ (op = .neq ∧ r = !(a == c && b == d))) (hN : N (s.put o.dst (.bool r))) : AOp P o N Q s :=
  op_val hd (fun G W ac ra _ => ⟨.bool r, by
    have agg_inv : ∀ {z : Operand} {p q : Str}, s.ev z = some (.agg [.str p, .str q]) → ac.eval z = .agg #[.string (mkS p), .string (mkS q)] := by
      intro z p q hz
      have := ev_eval ra hz
      generalize ac.eval z = w at this
      cases this with
      | agg hl =>
        cases hl with
        | cons h1 hl =>
          cases h1
          cases hl with
          | cons h2 hl => cases h2; cases hl; rfl
    have hg : P.eqGuardType P.depth t = false := by
      unfold eq2T at h
      split at h
      · split at h
        · simp only [Bool.and_eq_true] at h
          obtain ⟨_, h⟩ := h
          split at h
          · simp only [Bool.and_eq_true, Bool.not_eq_true'] at h
            exact h.2
          · simp at h
        · simp at h
      · simp at h
    have hs : ∀ p q : Str, (mkS p == mkS q) = (p == q) := by
      intro p q
      show (p.toArray == q.toArray) = (p == q)
      simp
    have he := eq2_run (P := P) h (mkS a) (mkS b) (mkS c) (mkS d) W
    rw [hs, hs] at he
    unfold execOp
    simp only [ho, agg_inv hx, agg_inv hy]
    rcases hop with ⟨rfl, rfl⟩ | ⟨rfl, rfl⟩
    · simp [eqGuard, hg, binOp, he]
    · simp [eqGuard, hg, binOp, he], .bool _⟩) hN
end
end Go.Abs
