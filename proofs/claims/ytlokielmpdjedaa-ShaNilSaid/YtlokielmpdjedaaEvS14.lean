/- The evaluator is sound, fourteenth part: regions. -/
import Derived.Test.YtlokielmpdjedaaEvS13
import Derived.OrdersHeld
namespace Go.Proofs.Ytlokielmpdjedaa.Ev
open Go
set_option linter.unusedVariables false

variable {P : Program}

def SoundT (P : Program) (T : FuncId → Option Summ) : Prop := ∀ f S, T f = some S → SoundFn P f S

def isLast (P : Program) (o : Oper) : Bool := !isPureOp P o.op && isDs o.op

section
variable {G : Ctx} {m : GM} {h : Heap} {w w' : World} {a : Act} {env : Env} {o : Oper} {r : Res} {T : FuncId → Option Summ}

/-- What is known behind an operation. -/
def Behind (P : Program) (G : Ctx) (m : GM) (w : World) (dr : Bool) (o : Oper) (K : AV → Heap → Option Res) (r : Res) (v : Value) (w' : World) : Prop :=
  ∃ av h' m', K av h' = some r ∧ Inv G m' h' w' ∧ Pre m m' ∧ (isTop av ∨ AVRel m' av v) ∧ (dr = true → isLast P o = false → Ext w w')

theorem retAV_rel {rs : List TV} {v : Value} (h : ResRel m rs v) : AVRel m (retAV rs) v := by
  match rs, h with
  | [], h => exact h
  | [x], h => exact h
  | x :: y :: r, h => exact h

theorem fnOf_rel (he : ERel m env a) {x : Operand} {f : FuncId} (hf : fnOf env x = some f) : a.eval x = .func (.func f) #[] #[] := by
  unfold fnOf at hf
  split at hf
  · cases hf; rfl
  · rename_i i
    split at hf
    · rename_i f' hi'
      cases hf
      rcases he.val i with h0 | h0
      · rw [hi'] at h0; exact h0.elim
      · rw [hi'] at h0; exact h0
    · cases hf
  · cases hf

/-- An operation, carried out. -/
theorem evOp_wp (hT : SoundT P T) (hi : Inv G m h w) (he : ERel m env a) {dr : Bool} {K : AV → Heap → Option Res} (hev : evOp P T dr o env h K = some r)
    {next : Act → World → Prop} {Q : Exit → Act → World → Prop} (hn : ∀ v w', Behind P G m w dr o K r v w' → next (a.put o.dst v) w') : o.wp P a w next Q := by
  unfold evOp at hev
  unfold Oper.wp
  split at hev
  · obtain ⟨av, v, h1, h2, h3⟩ := evPure_sound hi he hev
    rw [h3 w (Ext.refl w), Oper.upon_value]
    exact hn v w ⟨av, h, m, h1, hi, Pre.refl m, .inr h2, fun _ _ => Ext.refl w⟩
  · rename_i hnp
    have eff : evEff P o env h K = some r → o.upon P a next Q ((execOp a.eval o).run P w) := by
      intro hev
      obtain ⟨av, h', h1, n, v, w', m', h2, h3, h4, h5, h6, h7⟩ := evEff_sound hi he hev
      rw [h2]
      have hb : Behind P G m w dr o K r v w' := ⟨av, h', m', h1, h4, h5, h6, fun _ hd => h7 (by unfold isLast at hd; rw [Bool.eq_false_iff.2 hnp] at hd; simpa using hd)⟩
      rcases h3 with rfl | ⟨rfl, rfl⟩
      · rw [Oper.upon_value]; exact hn v w' hb
      · rw [Oper.upon_skip]; exact hn _ w' hb
    split at hev
    · rename_i c hc
      split at hev
      · rename_i xf hxf
        split at hev
        · rename_i f hf
          split at hev
          · rename_i S args hS hargs
            have hs := hT f S hS
            have hx := (argVals_rel he hargs).vals
            rw [callF_eq] at hev
            have hcall := callS_sound hi hs hx hev
            have hrun : (execOp a.eval o).run P w = .ok (.enter f (c.args.map a.eval)) w := by
              have hfv : a.eval xf = .func (.func f) #[] #[] := fnOf_rel he hf
              simp only [execOp, hc, resolve, hxf, hfv, Deferred.ofValue, Sem.run_bind, Sem.run_pure, Result.andThen_ok, invoke, Array.empty_append, Array.append_empty, hs.enter]
            rw [hrun, Oper.upon_enter]
            have hargs' : (c.args.toList.map a.eval).toArray = c.args.map a.eval := by
              apply Array.ext'; simp
            rw [hargs'] at hcall
            refine hcall.mono ?_
            rintro e w' ⟨rs, h', hK, v, t, rfl, hrv, hi', hext⟩
            exact hn v w' ⟨_, _, _, hK, hi', pre_append m t, .inr (retAV_rel hrv), fun hd _ => hext hd⟩
          · cases hev
        · exact eff hev
      · exact eff hev
    · exact eff hev

theorem tmp_bool (he : ERel m env a) {s : Nat} {b : Bool} (hs : eget env s = .tv (.lf (.bool b))) : a.tmps[s]? = some (.bool b) := by
  have := he.val s
  rw [hs] at this
  rcases this with h0 | h0
  · exact h0.elim
  · have h1 : a.tmps.getD s undef = .bool b := h0
    simp only [Array.getD_eq_getD_getElem?] at h1
    cases hq : a.tmps[s]? with
    | none => rw [hq] at h1; cases h1
    | some v => rw [hq] at h1; simp only [Option.getD_some] at h1; rw [h1]

theorem ERel.lit (he : ERel m env a) {s : Nat} {b : Bool} (hs : eget env s = .tv (.lf (.bool b))) : ERel m (eset env s (.tv (.lf (.bool b)))) a := by
  refine ⟨by rw [eset_length]; exact he.len, he.dfr, fun i => ?_⟩
  by_cases hi : s = i
  · subst hi
    have := he.val s
    rw [hs] at this
    by_cases hl : s < env.length
    · rw [eget_eset_same hl]; exact this
    · rw [eget_out (by rw [eset_length]; exact Nat.le_of_not_lt hl)]; exact .inl trivial
  · rw [eget_eset_ne hi]; exact he.val i

/-- What is known behind one operation of a region, wanted or not. -/
def Behind2 (P : Program) (G : Ctx) (m : GM) (w : World) (dr : Bool) (o : Oper) (K : Env → Heap → Option Res) (r : Res) (a' : Act) (w' : World) : Prop :=
  ∃ env' h' m', K env' h' = some r ∧ Inv G m' h' w' ∧ Pre m m' ∧ ERel m' env' a' ∧ (dr = true → isLast P o = false → Ext w w')

/-- One operation of a region: if it is wanted it is carried out, else its slot is emptied. -/
theorem evStep_wp (hT : SoundT P T) (hi : Inv G m h w) (he : ERel m env a) {dr : Bool} {ops : Array Oper} {K : Env → Heap → Option Res} (hev : evStep P T dr ops.toList o env h K = some r)
    {next : Act → World → Prop} {Q : Exit → Act → World → Prop} (hn : ∀ a' w', Behind2 P G m w dr o K r a' w' → next a' w') :
    if Region.wanted o (yielded ops a.tmps) then o.wp P a w next Q else next (a.put o.dst undef) w := by
  unfold evStep at hev
  simp only [dstF_eq, esetF_eq] at hev
  have carry : ∀ {env1 : Env}, ERel m env1 a → evOp P T dr o env1 h (fun v h' => K (dstSet env1 o.dst v) h') = some r → o.wp P a w next Q := by
    intro env1 he1 hev1
    refine evOp_wp hT hi he1 hev1 fun v w' ⟨av, h', m', h1, h2, h3, h4, h5⟩ => hn _ _ ⟨_, h', m', h1, h2, h3, (he1.mono h3).put h4, h5⟩
  have skip : ∀ {env1 : Env}, ERel m env1 a → K (dstSet env1 o.dst .top) h = some r → next (a.put o.dst undef) w := by
    intro env1 he1 hev1
    exact hn _ _ ⟨_, h, m, hev1, hi, Pre.refl m, he1.put (.inl trivial), fun _ _ => Ext.refl w⟩
  split at hev
  · rename_i hg
    have : Region.wanted o (yielded ops a.tmps) = true := by simp [Region.wanted, hg]
    rw [if_pos this]
    exact carry he hev
  · rename_i j want hg
    split at hev
    · rename_i oj hoj
      split at hev
      · rename_i s hs
        split at hev
        · rename_i b hb
          have hoj' : ops[j]? = some oj := by simpa using hoj
          have hy : yielded ops a.tmps j = some b := by
            simp only [yielded, hoj', Option.bind_some, hs, tmp_bool he hb]
          have hwant : Region.wanted o (yielded ops a.tmps) = (b == want) := by
            simp only [Region.wanted, hg, hy]
            cases b <;> cases want <;> rfl
          rw [hwant]
          cases b with
          | true =>
            simp only [cond_true] at hev
            cases want with
            | true => simp only [if_true] at hev; exact carry (he.lit hb) hev
            | false => simp only [Bool.false_eq_true, if_false] at hev; exact skip (he.lit hb) hev
          | false =>
            simp only [cond_false] at hev
            cases want with
            | true => simp only [if_true] at hev; exact skip (he.lit hb) hev
            | false => simp only [Bool.false_eq_true, if_false] at hev; exact carry (he.lit hb) hev
        · cases hev
      · cases hev
    · cases hev

theorem evOps_wp (hT : SoundT P T) {ops : Array Oper} {Q : Exit → Act → World → Prop} :
    ∀ (l : List Oper) {m : GM} {h : Heap} {w : World} {a : Act} {env : Env} {K : Env → Heap → Option Res}, Inv G m h w → ERel m env a → evOps P T ops.toList l env h K = some r →
      (∀ env' h' m' a' w', K env' h' = some r → Inv G m' h' w' → Pre m m' → ERel m' env' a' → Q .normal a' w') → wpList P ops Q l a w
  | [], m, h, w, a, env, K, hi, he, hev, hq => hq env h m a w hev hi (Pre.refl m) he
  | o :: l, m, h, w, a, env, K, hi, he, hev, hq => by
    simp only [evOps] at hev
    have := evStep_wp hT hi he (ops := ops) (Q := Q) (next := wpList P ops Q l) hev fun a' w' ⟨env', h', m', h1, h2, h3, h4, _⟩ =>
      evOps_wp hT l h2 h4 h1 fun env2 h2' m2 a2 w2 q1 q2 q3 q4 => hq env2 h2' m2 a2 w2 q1 q2 (h3.trans q3) q4
    simp only [wpList]
    split
    · rename_i hw; rw [if_pos hw] at this; exact .inl this
    · rename_i hw; rw [if_neg hw] at this; exact this

/-! ### Any order -/

/-- Whatever order is picked; and what turns no memory that was there says so. -/
def wpAnyE (P : Program) (ops : Array Oper) (Q : Exit → Act → World → Prop) : Nat → Array Bool → Act → World → Prop
  | 0, listed, a, w => Region.ready .any ops listed = [] ∧ Q .normal a w
  | fuel + 1, listed, a, w =>
    (Region.ready .any ops listed = [] → Q .normal a w) ∧
    ∀ i ∈ Region.ready .any ops listed, wpOp P ops Q i (fun a' w' => ((∀ o, ops[i]? = some o → isLast P o = false) → Ext w w') ∧ wpAnyE P ops Q fuel (listed.setIfInBounds i true) a' w') a w

theorem wpAny_of_E {ops : Array Oper} {Q : Exit → Act → World → Prop} : ∀ (fuel : Nat) (listed : Array Bool) (a : Act) (w : World), wpAnyE P ops Q fuel listed a w → wpAny P .any ops Q fuel listed a w
  | 0, _, _, _, h => h
  | fuel + 1, _, _, _, h => ⟨h.1, fun i hi => wpOp_mono (fun a' w' h' => wpAny_of_E fuel _ a' w' h'.2) (h.2 i hi)⟩

def Closed (ops : Array Oper) (listed : Array Bool) : Prop :=
  ∀ j oj, ops[j]? = some oj → listed.getD j false = true → ∀ e ∈ oj.after, Region.binds .any e = true → listed.getD e.on false = true

theorem Closed.set {ops : Array Oper} {listed : Array Bool} {i : Nat} (h : Closed ops listed) (hi : i ∈ Region.ready .any ops listed) : Closed ops (listed.setIfInBounds i true) := by
  obtain ⟨_, oi, hoi, hall⟩ := mem_ready.1 hi
  intro j oj hj hl e he hb
  by_cases hij : i = j
  · subst hij
    have : oj = oi := Option.some.inj (hj.symm.trans hoi)
    subst this
    exact getD_set_true (hall e he hb)
  · rw [getD_set_ne false hij] at hl
    exact getD_set_true (h j oj hj hl e he hb)

theorem waits_listed {ops : Array Oper} {listed : Array Bool} {i : Nat} (hc : Closed ops listed) : ∀ (fuel d : Nat), waitsB ops i fuel d = true → listed.getD d false = true → listed.getD i false = true
  | 0, _, h, _ => by simp [waitsB] at h
  | fuel + 1, d, h, hl => by
    unfold waitsB at h
    cases ho : ops[d]? with
    | none => rw [ho] at h; simp at h
    | some o =>
      rw [ho] at h
      obtain ⟨e, he, h1⟩ := Array.any_eq_true'.1 h
      simp only [Bool.and_eq_true, Bool.or_eq_true, beq_iff_eq] at h1
      have hle := hc d o ho hl e he h1.1
      rcases h1.2 with h2 | h2
      · rw [← h2]; exact hle
      · exact waits_listed hc fuel e.on h2 hle

theorem not_listed {listed : Array Bool} {i : Nat} (h1 : listed.getD i true = false) (h2 : listed.getD i false = true) : False := by
  rcases Nat.lt_or_ge i listed.size with h' | h'
  · simp [h'] at h1 h2
    rw [h1] at h2; cases h2
  · simp [Array.getElem?_eq_none h'] at h1

theorem waits_not_ready {ops : Array Oper} {listed : Array Bool} {i d fuel : Nat} (hc : Closed ops listed) (hr : waitsB ops i fuel d = true) (hun : listed.getD i true = false) : d ∉ Region.ready .any ops listed := by
  intro hd
  obtain ⟨_, o, ho, hall⟩ := mem_ready.1 hd
  refine not_listed hun ?_
  cases fuel with
  | zero => simp [waitsB] at hr
  | succ n =>
    unfold waitsB at hr
    rw [ho] at hr
    obtain ⟨e, he, h1⟩ := Array.any_eq_true'.1 hr
    simp only [Bool.and_eq_true, Bool.or_eq_true, beq_iff_eq] at h1
    have hle := hall e he h1.1
    rcases h1.2 with h2 | h2
    · rw [← h2]; exact hle
    · exact waits_listed hc n e.on h2 hle

/-- An operation that turns no memory may be taken first. -/
theorem wpAnyE_first {ops : Array Oper} {Q : Exit → Act → World → Prop} {i : Nat} {oi : Oper} {v : Value} {wi : World} (hi : ops[i]? = some oi) (hsel : ∀ (j : Nat) (o : Oper) cs b, ops[j]? = some o → o.op ≠ .select cs b)
    (hQ : ∀ c a w, Q (.panic c) (a.put oi.dst v) w → Q (.panic c) a w) (n : Nat) :
    ∀ (fuel : Nat) (listed : Array Bool) (a : Act) (w : World),
      (∀ j oj, ops[j]? = some oj → j ≠ i → listed.getD j true = false → (∀ e ∈ oj.after, Region.binds .any e = true → e.on ≠ i) → oi.apart ops oj = true) →
      Closed ops listed → (∀ d od, ops[d]? = some od → d ≠ i → isLast P od = true → listed.getD d true = false → waitsB ops i n d = true) →
      i ∈ Region.ready .any ops listed → YieldsIf P ops (Ext wi) oi v a → Ext wi w →
      wpAnyE P ops Q fuel (listed.setIfInBounds i true) (a.put oi.dst v) w → wpAnyE P ops Q (fuel + 1) listed a w := by
  intro fuel
  induction fuel with
  | zero =>
    intro listed a w _ _ _ hr hy hS H
    refine ⟨fun h => (by rw [h] at hr; cases hr), fun j hj => ?_⟩
    by_cases hji : j = i
    · subst hji; exact hy.wpOp hi hS ⟨fun _ => Ext.refl w, H⟩
    · have := ready_mono hj hji
      rw [H.1] at this
      cases this
  | succ fuel ih =>
    intro listed a w hfree hc hd hr hy hS H
    refine ⟨fun h => (by rw [h] at hr; cases hr), fun j hj => ?_⟩
    by_cases hji : j = i
    · subst hji; exact hy.wpOp hi hS ⟨fun _ => Ext.refl w, H⟩
    · have h1 := H.2 j (ready_mono hj hji)
      obtain ⟨hjun, oj, hoj, hall⟩ := mem_ready.1 hj
      have hiun := (mem_ready.1 hr).1
      have hnot : ∀ e ∈ oj.after, Region.binds .any e = true → e.on ≠ i := fun e he hb heq => by
        have h1 := hall e he hb
        rw [heq] at h1
        exact not_listed hiun h1
      have hjd : isLast P oj = false := by
        cases hq : isLast P oj with
        | false => rfl
        | true => exact absurd hj (waits_not_ready hc (hd j oj hoj hji hq hjun) hiun)
      have h2 := wpOp_putIf hoj (hfree j oj hoj hji hjun hnot) (fun cs b => hsel i oi cs b hi) (fun cs b => hsel j oj cs b hoj) hQ hy h1
      have hfree' : ∀ k ok, ops[k]? = some ok → k ≠ i → (listed.setIfInBounds j true).getD k true = false →
          (∀ e ∈ ok.after, Region.binds .any e = true → e.on ≠ i) → oi.apart ops ok = true := fun k ok hk hki hun hno => by
        refine hfree k ok hk hki ?_ hno
        by_cases hjk : j = k
        · subst hjk; exact hjun
        · rw [getD_set_ne true hjk] at hun; exact hun
      have hd' : ∀ d od, ops[d]? = some od → d ≠ i → isLast P od = true → (listed.setIfInBounds j true).getD d true = false → waitsB ops i n d = true := fun d od hod hne hl hun => by
        refine hd d od hod hne hl ?_
        by_cases hjk : j = d
        · subst hjk; exact hjun
        · rw [getD_set_ne true hjk] at hun; exact hun
      refine wpOp_mono (fun a' w' h3 => ⟨h3.2.1, ih (listed.setIfInBounds j true) a' w' hfree' (hc.set hj) hd' (ready_mono hr (Ne.symm hji)) h3.1 (hS.trans (h3.2.1 fun o ho => ?_)) ?_⟩) h2
      · rw [Array.setIfInBounds_comm _ _ hji]
        exact h3.2.2
      · rw [hoj] at ho; cases ho; exact hjd

/-- An operation that looks at no memory may be taken first. -/
theorem wpAnyE_first0 {ops : Array Oper} {Q : Exit → Act → World → Prop} {i : Nat} {oi : Oper} {v : Value} (hi : ops[i]? = some oi) (hsel : ∀ (j : Nat) (o : Oper) cs b, ops[j]? = some o → o.op ≠ .select cs b)
    (hQ : ∀ c a w, Q (.panic c) (a.put oi.dst v) w → Q (.panic c) a w) :
    ∀ (fuel : Nat) (listed : Array Bool) (a : Act) (w : World),
      (∀ j oj, ops[j]? = some oj → j ≠ i → listed.getD j true = false → (∀ e ∈ oj.after, Region.binds .any e = true → e.on ≠ i) → oi.apart ops oj = true) →
      i ∈ Region.ready .any ops listed → YieldsIf P ops (fun _ => True) oi v a →
      wpAnyE P ops Q fuel (listed.setIfInBounds i true) (a.put oi.dst v) w → wpAnyE P ops Q (fuel + 1) listed a w := by
  intro fuel
  induction fuel with
  | zero =>
    intro listed a w _ hr hy H
    refine ⟨fun h => (by rw [h] at hr; cases hr), fun j hj => ?_⟩
    by_cases hji : j = i
    · subst hji; exact hy.wpOp hi trivial ⟨fun _ => Ext.refl w, H⟩
    · have := ready_mono hj hji
      rw [H.1] at this
      cases this
  | succ fuel ih =>
    intro listed a w hfree hr hy H
    refine ⟨fun h => (by rw [h] at hr; cases hr), fun j hj => ?_⟩
    by_cases hji : j = i
    · subst hji; exact hy.wpOp hi trivial ⟨fun _ => Ext.refl w, H⟩
    · have h1 := H.2 j (ready_mono hj hji)
      obtain ⟨hjun, oj, hoj, hall⟩ := mem_ready.1 hj
      have hiun := (mem_ready.1 hr).1
      have hnot : ∀ e ∈ oj.after, Region.binds .any e = true → e.on ≠ i := fun e he hb heq => by
        have h1 := hall e he hb
        rw [heq] at h1
        exact not_listed hiun h1
      have h2 := wpOp_putIf hoj (hfree j oj hoj hji hjun hnot) (fun cs b => hsel i oi cs b hi) (fun cs b => hsel j oj cs b hoj) hQ hy h1
      have hfree' : ∀ k ok, ops[k]? = some ok → k ≠ i → (listed.setIfInBounds j true).getD k true = false →
          (∀ e ∈ ok.after, Region.binds .any e = true → e.on ≠ i) → oi.apart ops ok = true := fun k ok hk hki hun hno => by
        refine hfree k ok hk hki ?_ hno
        by_cases hjk : j = k
        · subst hjk; exact hjun
        · rw [getD_set_ne true hjk] at hun; exact hun
      refine wpOp_mono (fun a' w' h3 => ⟨h3.2.1, ih (listed.setIfInBounds j true) a' w' hfree' (ready_mono hr (Ne.symm hji)) h3.1 ?_⟩) h2
      rw [Array.setIfInBounds_comm _ _ hji]
      exact h3.2.2

end
end Go.Proofs.Ytlokielmpdjedaa.Ev
