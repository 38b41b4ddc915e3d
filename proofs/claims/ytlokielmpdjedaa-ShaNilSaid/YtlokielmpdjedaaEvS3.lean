/- The evaluator is sound, third part: operations that turn no memory. -/
import Derived.Test.YtlokielmpdjedaaEvS2
namespace Go.Proofs.Ytlokielmpdjedaa.Ev
open Go
set_option linter.unusedVariables false

variable {P : Program}

theorem run_under {w : World} {t : TypeId} {d : TypeDesc} (h : P.underlying t = some d) : (underlying t).run P w = .ok d w := by simp [underlying, h]
theorem run_size {w : World} {t : TypeId} {i : TypeInfo} (h : P.info? t = some i) : (sizeOf t).run P w = .ok i.size w := by simp [sizeOf, typeInfo, h]
theorem info_of_under {t : TypeId} {d : TypeDesc} (h : P.underlying t = some d) : ∃ i, P.info? t = some i := by
  unfold Program.underlying at h
  cases hi : P.info? t with
  | none => rw [hi] at h; cases h
  | some i => exact ⟨i, rfl⟩
theorem run_isAgg {w : World} {t : TypeId} {d : TypeDesc} (h : P.underlying t = some d) : (isAgg t).run P w = .ok (isAggT P t) w := by
  simp only [isAgg, Sem.run_bind, run_under h, Result.andThen_ok, isAggT, h]
  cases d <;> rfl

theorem add_at (b : Nat × Nat) (o j : Nat) : (at_ b o).add j = at_ b (o + j) := by
  unfold Addr.add at_
  split
  · rename_i h; subst h; rfl
  · simp [Nat.add_assoc]

theorem isAgg_under {t : TypeId} (h : isAggT P t = true) : ∃ d, P.underlying t = some d := by
  unfold isAggT at h
  cases hd : P.underlying t with
  | none => rw [hd] at h; cases h
  | some d => exact ⟨d, rfl⟩

/-- What a load yields: one value, in every world in which the cells stand so. -/
theorem ldE_run {m : GM} {t : TypeId} {es : List LV} {v : TV} {cs : List Value} (h : ldE P t es = some v) (ho : OCells m es cs) :
    ∃ val, TVRel m v val ∧
      (∀ (b : Nat × Nat) (off : Nat) (w : World), (∀ j u, cs[j]? = some u → w.cell? (at_ b (off + j)) = some u) → (loadVar t (at_ b off)).run P w = .ok val w) ∧
      (∀ (A : Array Value) (off : Nat) (w : World) (tail : List Value), A.toList.drop off = cs ++ tail → (part t A off).run P w = .ok val w) := by
  unfold ldE at h
  split at h
  · rename_i hag
    split at h
    · rename_i l hl
      simp only [Option.some.injEq] at h
      subst h
      obtain ⟨d, hd⟩ := isAgg_under hag
      obtain ⟨i, hi⟩ := info_of_under hd
      have hsz : szOf P t = i.size := by simp [szOf, hi]
      obtain ⟨h1, h2⟩ := takeW_cells hl ho
      refine ⟨.agg (cs.take (szOf P t)).toArray, ⟨_, rfl, by simpa using h2⟩, fun b off w hc => ?_, fun A off w tail hA => ?_⟩
      · simp only [loadVar, Sem.run_bind, run_isAgg hd, Result.andThen_ok, hag, if_true, run_size hi]
        have := run_loadCells_list (P := P) (w := w) (at_ b off) (cs.take i.size) (fun j u hu => by
          rw [add_at]
          refine hc j u ?_
          rw [List.getElem?_take] at hu
          split at hu
          · exact hu
          · cases hu)
        have hl : (cs.take i.size).length = i.size := by rw [List.length_take]; omega
        rw [hl] at this
        rw [this, hsz]
        rfl
      · simp only [part, Sem.run_bind, run_isAgg hd, Result.andThen_ok, hag, if_true, run_size hi, hsz]
        simp only [Sem.run_pure, Result.ok.injEq, Value.agg.injEq, and_true]
        apply Array.ext'
        simp only [Array.toList_extract, List.extract_eq_take_drop, hA]
        rw [show off + i.size - off = i.size by omega, List.take_append_of_le_length (by omega)]
    · cases h
  · rename_i hag
    split at h
    · cases h
    · rename_i d hd
      split at h
      · cases h
      · rename_i x r hne
        simp only [Option.some.injEq] at h
        subst h
        obtain ⟨a, b, rfl, hx, hr⟩ := ho
        have hx' : ∃ v, a = [v] ∧ LRel m x v := by
          cases x
          case seq k n l => exact (hne _ _ _ rfl).elim
          all_goals exact hx
        obtain ⟨v, rfl, hv⟩ := hx'
        have hagf : isAggT P t = false := by simpa using hag
        refine ⟨v, hv, fun b off w hc => ?_, fun A off w tail hA => ?_⟩
        · simp only [loadVar, Sem.run_bind, run_isAgg hd, Result.andThen_ok, hagf]
          have := hc 0 v rfl
          simp only [Nat.add_zero] at this
          simp [this]
        · have : A[off]? = some v := by
            have := congrArg (·[0]?) hA
            simpa using this
          simp only [part, Sem.run_bind, run_isAgg hd, Result.andThen_ok, hagf]
          simp [this]
      · cases h

theorem Placed.read {g : Gh} {w : World} {ro : Bool} {cs : List Value} (h : Placed g w ro cs) {b : Nat × Nat} (hb : g.addr = some b) :
    ∀ j u, cs[j]? = some u → w.cell? (at_ b j) = some u := by
  intro j u hu
  rcases h with ⟨rfl, _⟩ | ⟨b', blk, t, fr, h1, h2, h3, h4, h5, h6⟩
  · cases hu
  · rw [hb] at h1
    cases h1
    have hj : j < cs.length := (List.getElem?_eq_some_iff.1 hu).1
    simp only [World.cell?, at_, h2]
    simpa using (h5 j hj).trans hu

theorem Inv.read {G : Ctx} {m : GM} {h : Heap} {w : World} (i : Inv G m h w) {id : Nat} {ob : Ob} {g : Gh} {b : Nat × Nat} (ho : hget h id = some ob) (hg : m[id]? = some g)
    (hb : g.addr = some b) : ∃ cs, OCells m ob.es cs ∧ ∀ w', Ext w w' → ∀ j u, cs[j]? = some u → w'.cell? (at_ b j) = some u := by
  obtain ⟨_, cs, h1, h2⟩ := i.obs id ob g ho hg
  exact ⟨cs, h1, fun w' e => (h2.ext e).read hb⟩

theorem Inv.ghost {G : Ctx} {m : GM} {h : Heap} {w : World} (i : Inv G m h w) {id : Nat} {ob : Ob} (ho : hget h id = some ob) : ∃ g, m[id]? = some g := by
  have := hget_lt ho
  rw [← i.len] at this
  exact ⟨m[id], List.getElem?_eq_getElem this⟩

/-- What is shown of an operation that turns no memory. -/
def PureOK (P : Program) (m : GM) (w : World) (a : Act) (o : Oper) (K : AV → Option Res) (r : Res) : Prop :=
  ∃ av v, K av = some r ∧ AVRel m av v ∧ ∀ w', Ext w w' → (execOp a.eval o).run P w' = .ok (.value v) w'

section
variable {G : Ctx} {m : GM} {h : Heap} {w : World} {a : Act} {env : Env} {o : Oper} {K : AV → Option Res} {r : Res}

theorem pure_move (he : ERel m env a) {x : Operand} (ho : o.op = .move x ∨ o.op = .assign x) (hev : evPure P o env h K = some r) :
    PureOK P m w a o K r := by
  have hev' : (match opd P env o.type x with | some v => K v | none => none) = some r := by
    rcases ho with ho | ho <;> (simp only [evPure, ho] at hev; exact hev)
  split at hev'
  · rename_i v hv
    refine ⟨v, a.eval x, hev', opd_rel he hv, fun w' _ => ?_⟩
    rcases ho with ho | ho <;> simp [execOp, ho]
  · cases hev'

theorem pure_pick (he : ERel m env a) {c x y : Operand} (ho : o.op = .pick c x y) (hev : evPure P o env h K = some r) : PureOK P m w a o K r := by
  simp only [evPure, ho] at hev
  split at hev
  · rename_i t ht
    have hc : a.eval c = .bool t := opd_rel he ht
    cases t with
    | true =>
      simp only [cond_true] at hev
      split at hev
      · rename_i v hv
        exact ⟨v, a.eval x, hev, opd_rel he hv, fun w' _ => by simp [execOp, ho, hc, asBool]⟩
      · cases hev
    | false =>
      simp only [cond_false] at hev
      split at hev
      · rename_i v hv
        exact ⟨v, a.eval y, hev, opd_rel he hv, fun w' _ => by simp [execOp, ho, hc, asBool]⟩
      · cases hev
  · cases hev

theorem pure_load (hi : Inv G m h w) (he : ERel m env a) {t : TypeId} {x : Operand} (ho : o.op = .load t x) (hev : evPure P o env h K = some r) : PureOK P m w a o K r := by
  simp only [evPure, ho] at hev
  split at hev
  · rename_i id off hx
    obtain ⟨g, b, hg, hb, hv⟩ : ∃ g b, m[id]? = some g ∧ g.addr = some b ∧ a.eval x = .pointer (some (at_ b off)) := opd_rel he hx
    split at hev
    · rename_i ob hob
      split at hev
      · rename_i es hes
        split at hev
        · rename_i v hld
          obtain ⟨cs, hoc, hrd⟩ := hi.read hob hg hb
          obtain ⟨h1, h2⟩ := dropW_cells hes hoc
          obtain ⟨val, hval, hrun, _⟩ := ldE_run hld h2
          refine ⟨_, val, hev, hval, fun w' e => ?_⟩
          have := hrun b off w' (fun j u hu => hrd w' e (off + j) u (by rw [List.getElem?_drop] at hu; exact hu))
          simp [execOp, ho, hv, Instr.loadAt, Instr.sureAddr, this]
        · cases hev
      · cases hev
    · cases hev
  · rename_i id off i o2 hx
    obtain ⟨g, b, hg, hb, hv⟩ : ∃ g b, m[id]? = some g ∧ g.addr = some b ∧ a.eval x = .pointer (some (at_ b (off + i * g.ew off + o2))) := opd_rel he hx
    split at hev
    · rename_i ob hob
      split at hev
      · rename_i k n l post hes
        split at hev
        · rename_i es hes2
          split at hev
          · rename_i v hld
            cases hlt : decide (i < l.length) with
            | false => rw [hlt] at hev; cases hev
            | true =>
              rw [hlt, cond_true] at hev
              have hlt' : i < l.length := of_decide_eq_true hlt
              obtain ⟨cs, hoc, hrd⟩ := hi.read hob hg hb
              obtain ⟨h1, h2⟩ := dropW_cells hes hoc
              obtain ⟨_, hew⟩ := (hi.obs id ob g hob hg).1 off k n l post hes
              obtain ⟨c1, c2, hcs, ⟨_, rfl⟩, _⟩ := h2
              obtain ⟨h3, h4⟩ := dropW_cells hes2 (toLV_cells m k (l.getD i k.zero))
              obtain ⟨val, hval, hrun, _⟩ := ldE_run hld h4
              refine ⟨_, val, hev, hval, fun w' e => ?_⟩
              have := hrun b (off + i * g.ew off + o2) w' (fun j u hu => hrd w' e (off + i * g.ew off + o2 + j) u (by
                rw [List.getElem?_drop] at hu
                have hj : o2 + j < k.w := by
                  have := (List.getElem?_eq_some_iff.1 hu).1
                  rwa [cv_length] at this
                have h5 : cs[off + (i * k.w + (o2 + j))]? = some u := by
                  rw [← List.getElem?_drop, hcs, List.getElem?_append_left (by
                    rw [cvs_length]
                    have : (i + 1) * k.w ≤ l.length * k.w := Nat.mul_le_mul_right _ hlt'
                    rw [Nat.add_mul] at this; omega), cvs_getD k l i hlt' _ hj]
                  exact hu
                rw [← hew]
                rw [← h5]; congr 1; omega))
              simp [execOp, ho, hv, Instr.loadAt, Instr.sureAddr, this]
          · cases hev
        · cases hev
      · cases hev
    · cases hev
  · cases hev

theorem pure_nilCheck (he : ERel m env a) {x : Operand} (ho : o.op = .nilCheck x) (hev : evPure P o env h K = some r) : PureOK P m w a o K r := by
  simp only [evPure, ho] at hev
  split at hev
  · rename_i id off hx
    have hr := opd_rel he hx
    obtain ⟨g, b, hg, hb, hv⟩ := hr
    exact ⟨_, _, hev, ⟨g, b, hg, hb, rfl⟩, fun w' _ => by simp [execOp, ho, hv]⟩
  · rename_i id off i o2 hx
    have hr := opd_rel he hx
    obtain ⟨g, b, hg, hb, hv⟩ := hr
    exact ⟨_, _, hev, ⟨g, b, hg, hb, rfl⟩, fun w' _ => by simp [execOp, ho, hv]⟩
  · cases hev

theorem szOf_pos {t : TypeId} (h : ¬ szOf P t = 0) : ∃ i, P.info? t = some i ∧ i.size ≠ 0 := by
  unfold szOf at h
  cases hi : P.info? t with
  | none => rw [hi] at h; exact absurd rfl h
  | some i => rw [hi] at h; exact ⟨i, rfl, h⟩

theorem pure_fieldAddr (he : ERel m env a) {s : TypeId} {x : Operand} {f : Nat}
    (ho : o.op = .fieldAddr s x f) (hev : evPure P o env h K = some r) : PureOK P m w a o K r := by
  simp only [evPure, ho] at hev
  split at hev
  · rename_i fs id off hs hx
    obtain ⟨g, b, hg, hb, hv⟩ : ∃ g b, m[id]? = some g ∧ g.addr = some b ∧ a.eval x = .pointer (some (at_ b off)) := opd_rel he hx
    split at hev
    · rename_i fd hfd
      split at hev
      · cases hev
      · rename_i hz
        obtain ⟨i, hin, hne⟩ := szOf_pos hz
        refine ⟨_, _, hev, ⟨g, b, hg, hb, rfl⟩, fun w' _ => ?_⟩
        simp [execOp, ho, hv, Instr.fieldAt, Instr.sureAddr, run_under hs, hfd, fieldPlace, run_size hin, hne, add_at]
    · cases hev
  · rename_i fs id off i o2 hs hx
    obtain ⟨g, b, hg, hb, hv⟩ : ∃ g b, m[id]? = some g ∧ g.addr = some b ∧ a.eval x = .pointer (some (at_ b (off + i * g.ew off + o2))) := opd_rel he hx
    split at hev
    · rename_i fd hfd
      split at hev
      · cases hev
      · rename_i hz
        obtain ⟨i', hin, hne⟩ := szOf_pos hz
        refine ⟨_, _, hev, ⟨g, b, hg, hb, rfl⟩, fun w' _ => ?_⟩
        simp [execOp, ho, hv, Instr.fieldAt, Instr.sureAddr, run_under hs, hfd, fieldPlace, run_size hin, hne, add_at, Nat.add_assoc]
    · cases hev
  · cases hev

theorem pure_field (he : ERel m env a) {s : TypeId} {x : Operand} {f : Nat} (ho : o.op = .field s x f) (hev : evPure P o env h K = some r) : PureOK P m w a o K r := by
  simp only [evPure, ho] at hev
  split at hev
  · rename_i fs l hs hx
    obtain ⟨cs, hv, hoc⟩ : ∃ cs, a.eval x = .agg cs ∧ OCells m l cs.toList := opd_rel he hx
    split at hev
    · rename_i fd hfd
      split at hev
      · rename_i es hes
        split at hev
        · rename_i v hld
          obtain ⟨h1, h2⟩ := dropW_cells hes hoc
          obtain ⟨val, hval, _, hrun⟩ := ldE_run hld h2
          refine ⟨_, val, hev, hval, fun w' _ => ?_⟩
          have := hrun cs fd.offset w' [] (List.append_nil _).symm
          simp [execOp, ho, hv, Instr.field, run_under hs, hfd, asAgg, this]
        · cases hev
      · cases hev
    · cases hev
  · cases hev

theorem int_opd (he : ERel m env a) {t : TypeId} {x : Operand} {n : Int} (hx : intArg (opd P env t x) = some n) : ∃ k, a.eval x = .int k n := by
  unfold intArg at hx
  split at hx
  · rename_i k n' hk
    simp only [Option.some.injEq] at hx
    subst hx
    exact ⟨k, opd_rel he hk⟩
  · cases hx

theorem pure_extract (he : ERel m env a) {x : Operand} {i : Nat} (ho : o.op = .extract x i) (hev : evPure P o env h K = some r) : PureOK P m w a o K r := by
  simp only [evPure, ho] at hev
  split at hev
  · rename_i l hx
    obtain ⟨vs, hv, hvs⟩ : ∃ vs, a.eval x = .tuple vs ∧ TVs m l vs.toList := opd_rel he hx
    split at hev
    · rename_i v hl
      have key : ∀ (l : List TV) (vs : List Value) (i : Nat), TVs m l vs → l[i]? = some v → ∃ u, vs[i]? = some u ∧ TVRel m v u := by
        intro l
        induction l with
        | nil => intro vs i _ h; cases h
        | cons y l ih =>
          intro vs i h1 h2
          cases vs with
          | nil => exact h1.elim
          | cons z vs =>
            cases i with
            | zero => simp at h2; subst h2; exact ⟨z, rfl, h1.1⟩
            | succ i => exact ih vs i h1.2 (by simpa using h2)
      obtain ⟨u, hu, hr⟩ := key l vs.toList i hvs hl
      have hu' : vs[i]? = some u := by simpa using hu
      refine ⟨_, u, hev, hr, fun w' _ => ?_⟩
      simp [execOp, ho, hv, Instr.extract, hu']
    · cases hev
  · cases hev

end
end Go.Proofs.Ytlokielmpdjedaa.Ev
