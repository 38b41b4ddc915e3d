/- The evaluator is sound, fourth part: numbers, texts, comparisons. -/
import Derived.Test.YtlokielmpdjedaaEvS3
namespace Go.Proofs.Ytlokielmpdjedaa.Ev
open Go
set_option linter.unusedVariables false

variable {P : Program}

section
variable {G : Ctx} {m : GM} {h : Heap} {w : World} {a : Act} {env : Env} {o : Oper} {K : AV → Option Res} {r : Res}

theorem intOp_run {op : BinOp} {k : IntKind} {x y : Int} {K : LV → Option Res} {r : Res} (hev : intOp op k x y K = some r) (m : GM) (t : TypeId) :
    ∃ lv v, K lv = some r ∧ LRel m lv v ∧ ∀ w, (binOp op t (.int k x) (.int k y)).run P w = .ok v w := by
  unfold intOp at hev
  split at hev
  case h_4 =>
    cases hz : decide (y = 0) with
    | true => rw [hz] at hev; cases hev
    | false =>
      rw [hz] at hev
      have hz' : ¬ y = 0 := of_decide_eq_false hz
      exact ⟨_, _, hev, rfl, fun w => by simp [binOp, Op.intDiv, hz']⟩
  case h_5 =>
    cases hz : decide (y = 0) with
    | true => rw [hz] at hev; cases hev
    | false =>
      rw [hz] at hev
      have hz' : ¬ y = 0 := of_decide_eq_false hz
      exact ⟨_, _, hev, rfl, fun w => by simp [binOp, Op.intDiv, hz']⟩
  all_goals first
    | (cases hev; done)
    | exact ⟨_, _, hev, rfl, fun w => by simp only [binOp, ne_eq, not_true_eq_false, if_false, Op.intBits]; rfl⟩
    | exact ⟨_, _, hev, rfl, fun w => by simp [binOp, Op.intArith]⟩
    | exact ⟨_, _, hev, rfl, fun w => by simp [binOp, Op.intCmp]⟩

theorem shiftOp_run {op : BinOp} {k k' : IntKind} {x y : Int} {K : LV → Option Res} {r : Res} (hev : shiftOp op k x y K = some r) (m : GM) (t : TypeId) :
    ∃ lv v, K lv = some r ∧ LRel m lv v ∧ ∀ w, (binOp op t (.int k x) (.int k' y)).run P w = .ok v w := by
  unfold shiftOp at hev
  split at hev
  all_goals first
    | (cases hev; done)
    | (cases hz : decide (y < 0) with
       | true => rw [hz] at hev; cases hev
       | false =>
         rw [hz] at hev
         have hz' : ¬ y < 0 := of_decide_eq_false hz
         exact ⟨_, _, hev, rfl, fun w => by simp [binOp, Op.shift, hz']⟩)

theorem binOpV_run {op : BinOp} {x y : AV} {vx vy : Value} {K : LV → Option Res} {r : Res} (hev : binOpV op x y K = some r) (hx : AVRel m x vx) (hy : AVRel m y vy) (t : TypeId) :
    ∃ lv v, K lv = some r ∧ LRel m lv v ∧ ∀ w, (binOp op t vx vy).run P w = .ok v w ∧ (∀ p q : Operand, (eqGuard op t p q vx vy).run P w = .ok () w) := by
  unfold binOpV at hev
  split at hev
  · rename_i k x k' y
    have hx' : vx = .int k x := hx
    have hy' : vy = .int k' y := hy
    subst hx' hy'
    have hg : ∀ (w : World) (p q : Operand), (eqGuard op t p q (.int k x) (.int k' y)).run P w = .ok () w := by
      intro w p q
      unfold eqGuard
      split <;> simp
    split at hev
    · obtain ⟨lv, v, h1, h2, h3⟩ := shiftOp_run (k' := k') hev m t
      exact ⟨lv, v, h1, h2, fun w => ⟨h3 w, hg w⟩⟩
    · obtain ⟨lv, v, h1, h2, h3⟩ := shiftOp_run (k' := k') hev m t
      exact ⟨lv, v, h1, h2, fun w => ⟨h3 w, hg w⟩⟩
    · split at hev
      · rename_i hk
        subst hk
        obtain ⟨lv, v, h1, h2, h3⟩ := intOp_run hev m t
        exact ⟨lv, v, h1, h2, fun w => ⟨h3 w, hg w⟩⟩
      · cases hev
  · rename_i x y
    have hx' : vx = .string x := hx
    have hy' : vy = .string y := hy
    subst hx' hy'
    have hg : ∀ (w : World) (p q : Operand), (eqGuard op t p q (.string x) (.string y)).run P w = .ok () w := by
      intro w p q
      unfold eqGuard
      split <;> simp
    split at hev
    · cases hz : decide (x.size + y.size ≤ 4611686018427387904) with
      | false => rw [hz] at hev; cases hev
      | true =>
        rw [hz] at hev
        have hz' : x.size + y.size ≤ 4611686018427387904 := of_decide_eq_true hz
        refine ⟨_, _, hev, rfl, fun w => ⟨?_, hg w⟩⟩
        have : ¬ (((x.size + y.size : Nat) : Int) > IntKind.i64.max) := by
          have : IntKind.i64.max = 9223372036854775807 := by decide
          rw [this]; omega
        simp only [binOp, Op.stringOp]
        rw [if_neg this]
        rfl
    · exact ⟨_, _, hev, rfl, fun w => ⟨by simp [binOp, Op.stringOp], hg w⟩⟩
    · exact ⟨_, _, hev, rfl, fun w => ⟨by simp [binOp, Op.stringOp], hg w⟩⟩
    · cases hev
  · cases hev


/-! ### Equality of structs and arrays -/

theorem cast_refl {k : EK} (h : k = k) (l : List k.den) : castL h l = l := rfl

theorem ekOf_leaf {e : TypeId} {k : EK} (hk : isLeafK k = true) (he : ekOf P 8 e = some k) :
    (∃ q, k = .int q ∧ ∃ q', P.underlying e = some (.int q')) ∨ (k = .bool ∧ P.underlying e = some .bool) ∨ (k = .str ∧ P.underlying e = some .string) ∨ ∃ fs, P.underlying e = some (.struct fs) := by
  unfold ekOf at he
  split at he
  · rename_i q hq; simp only [Option.some.injEq] at he; subst he; exact .inl ⟨_, rfl, _, hq⟩
  · rename_i hq; simp only [Option.some.injEq] at he; subst he; exact .inr (.inl ⟨rfl, hq⟩)
  · rename_i hq; simp only [Option.some.injEq] at he; subst he; exact .inr (.inr (.inl ⟨rfl, hq⟩))
  · rename_i fs hq; exact .inr (.inr (.inr ⟨fs, hq⟩))
  · cases he

theorem elem_eq {d : Nat} {e : TypeId} {k : EK} (hk : isLeafK k = true) (he : ekOf P 8 e = some k) (hn : notStruct P e = true) (x y : k.den) (w : World) :
    ∃ vx vy, k.cv x = [vx] ∧ k.cv y = [vy] ∧ (Op.equalIn (d + 1) e vx vy).run P w = .ok (k.beq x y) w ∧ isAggT P e = false ∧ ∃ dt, P.underlying e = some dt := by
  rcases ekOf_leaf hk he with ⟨q, rfl, q', hu⟩ | ⟨rfl, hu⟩ | ⟨rfl, hu⟩ | ⟨fs, hu⟩
  · exact ⟨_, _, rfl, rfl, by simp [Op.equalIn, run_under hu, EK.beq], by simp [isAggT, hu], _, hu⟩
  · exact ⟨_, _, rfl, rfl, by simp [Op.equalIn, run_under hu, EK.beq], by simp [isAggT, hu], _, hu⟩
  · exact ⟨_, _, rfl, rfl, by simp [Op.equalIn, run_under hu, EK.beq, beq_toListBytes], by simp [isAggT, hu], _, hu⟩
  · simp [notStruct, hu] at hn

theorem cvs_leaf_get {k : EK} (hw : k.w = 1) (l : List k.den) (j : Nat) (hj : j < l.length) : (cvs k l)[j]? = (k.cv (l.getD j k.zero))[0]? := by
  have := cvs_getD k l j hj 0 (by omega)
  rw [hw] at this
  simpa using this

theorem lbeq_drop {k : EK} {l l' : List k.den} {s : Nat} (h1 : s < l.length) (h2 : s < l'.length) :
    lbeq k (l.drop s) (l'.drop s) = (k.beq (l.getD s k.zero) (l'.getD s k.zero) && lbeq k (l.drop (s + 1)) (l'.drop (s + 1))) := by
  rw [List.drop_eq_getElem_cons h1, List.drop_eq_getElem_cons h2]
  simp only [lbeq]
  congr 2
  · simp [List.getD_eq_getElem?_getD, h1]
  · simp [List.getD_eq_getElem?_getD, h2]

theorem lbeq_run {d : Nat} {n : Nat} {e : TypeId} {k : EK} {i : TypeInfo} (hi : P.info? e = some i) (hsz : i.size = 1) (hk : isLeafK k = true) (he : ekOf P 8 e = some k) (hn : notStruct P e = true)
    {l l' : List k.den} (hl : l.length = n) (hl' : l'.length = n)
    (t : TypeId) (ht : P.underlying t = some (.array n e)) (w : World) :
    (Op.equalIn (d + 2) t (.agg (cvs k l).toArray) (.agg (cvs k l').toArray)).run P w = .ok (lbeq k l l') w := by
  have hw : k.w = 1 := by cases k <;> first | rfl | cases hk
  rw [Op.equalIn]
  simp only [Sem.run_bind, run_under ht, Result.andThen_ok, run_size hi, hsz, Nat.mul_one]
  rw [Std.Legacy.Range.forIn_eq_forIn_range']
  have key : ∀ (mm s : Nat), s + mm = n →
      (forIn (m := Sem) (List.range' s mm) ((none : Option Bool), ()) fun i_1 __s => do
            let __do_lift ← part e (cvs k l).toArray i_1
            let __do_lift_1 ← part e (cvs k l').toArray i_1
            let __do_lift ← Op.equalIn (d + 1) e __do_lift __do_lift_1
            if (!__do_lift) = true then pure (ForInStep.done (some false, ())) else pure (ForInStep.yield (none, ()))).run P w
        = .ok (if lbeq k (l.drop s) (l'.drop s) = true then (none, ()) else (some false, ())) w := by
    intro mm
    induction mm with
    | zero =>
      intro s hs
      simp only [List.range'_zero, List.forIn_nil, Sem.run_pure]
      rw [List.drop_eq_nil_of_le (by omega), List.drop_eq_nil_of_le (by omega)]
      rfl
    | succ mm ih =>
      intro s hs
      have h1 : s < l.length := by omega
      have h2 : s < l'.length := by omega
      obtain ⟨vx, vy, hx, hy, heq, hag, dt, hdt⟩ := elem_eq (d := d) hk he hn (l.getD s k.zero) (l'.getD s k.zero) w
      have p1 : (part e (cvs k l).toArray s).run P w = .ok vx w := by
        have := cvs_leaf_get hw l s h1
        rw [hx] at this
        simp only [part, Sem.run_bind, run_isAgg hdt, Result.andThen_ok, hag, Bool.false_eq_true, if_false, List.getElem?_toArray, this]
        rfl
      have p2 : (part e (cvs k l').toArray s).run P w = .ok vy w := by
        have := cvs_leaf_get hw l' s h2
        rw [hy] at this
        simp only [part, Sem.run_bind, run_isAgg hdt, Result.andThen_ok, hag, Bool.false_eq_true, if_false, List.getElem?_toArray, this]
        rfl
      simp only [List.range'_succ, List.forIn_cons, Sem.run_bind, p1, p2, heq, Result.andThen_ok, Sem.run_ite, Sem.run_pure, lbeq_drop h1 h2]
      cases hb : k.beq (l.getD s k.zero) (l'.getD s k.zero) with
      | false => simp
      | true => simpa using ih (s + 1) (by omega)
  have := key n 0 (by omega)
  simp only [List.drop_zero] at this
  have hr : Std.Legacy.Range.size [:n] = n := by simp [Std.Legacy.Range.size]
  rw [hr]
  rw [this]
  simp only [Result.andThen_ok]
  cases lbeq k l l' <;> rfl


theorem szOf_info {t : TypeId} {n : Nat} (h : szOf P t = n) (hn : 0 < n) : ∃ i, P.info? t = some i ∧ i.size = n := by
  unfold szOf at h
  cases hi : P.info? t with
  | none => simp only [hi] at h; omega
  | some i => simp only [hi] at h; exact ⟨i, rfl, h⟩

theorem eqFs_run {g : TypeId → TV → TV → Option Bool} {d : Nat}
    (hg : ∀ t v v' e, g t v v' = some e → ∀ vx vy, TVRel m v vx → TVRel m v' vy → ∀ w, (Op.equalIn d t vx vy).run P w = .ok e w)
    {es es' : List LV} {A B : Array Value} (hA : OCells m es A.toList) (hB : OCells m es' B.toList) (w : World) :
    ∀ (fs : List Field) (e : Bool), eqFs P g fs es es' = some e → (Op.eqFields d A B fs).run P w = .ok e w
  | [], e, h => by
    simp only [eqFs, Option.some.injEq] at h
    subst h
    simp [Op.eqFields]
  | f :: r, e, h => by
    simp only [eqFs] at h
    split at h
    · cases h
    · rename_i hname
      split at h
      · rename_i q q' hq hq'
        split at h
        · rename_i v v' hv hv'
          split at h
          · rename_i b hb
            obtain ⟨_, h1⟩ := dropW_cells hq hA
            obtain ⟨_, h2⟩ := dropW_cells hq' hB
            obtain ⟨x, hx, _, px⟩ := ldE_run hv h1
            obtain ⟨y, hy, _, py⟩ := ldE_run hv' h2
            have hxy := hg _ _ _ _ hb x y hx hy w
            have p1 := px A f.offset w [] (List.append_nil _).symm
            have p2 := py B f.offset w [] (List.append_nil _).symm
            split at h
            · simp only [Option.some.injEq] at h
              subst h
              simp [Op.eqFields, hname, p1, p2, hxy]
              cases b <;> simp
            · split at h
              · rename_i c hc
                simp only [Option.some.injEq] at h
                subst h
                have ih := eqFs_run hg hA hB w _ _ hc
                simp only [Op.eqFields, ne_eq, hname, not_false_eq_true, if_true, Sem.run_bind, p1, p2, Result.andThen_ok, hxy]
                cases b with
                | false => simp
                | true => simpa using ih
              · cases h
          · cases h
        · cases h
      · cases h

theorem eqT_run : ∀ (f : Nat) (t : TypeId) (v v' : TV) (e : Bool), eqT P f t v v' = some e → ∀ vx vy, TVRel m v vx → TVRel m v' vy → ∀ w d, f + 1 ≤ d →
    (Op.equalIn d t vx vy).run P w = .ok e w
  | 0, _, _, _, _, h => by simp [eqT] at h
  | f + 1, t, v, v', e, h => by
    intro vx vy hx hy w d hd
    obtain ⟨d, rfl⟩ : ∃ d', d = d' + 2 := ⟨d - 2, by omega⟩
    unfold eqT at h
    split at h
    · rename_i q hq
      split at h
      · split at h
        · rename_i k x k' y hk
          subst hk
          simp only [Option.some.injEq] at h
          subst h
          have h1 : vx = .int k x := hx
          have h2 : vy = .int k y := hy
          subst h1 h2
          simp [Op.equalIn, run_under hq]
        · cases h
      · cases h
    · rename_i hq
      split at h
      · rename_i x y
        simp only [Option.some.injEq] at h
        subst h
        have h1 : vx = .bool x := hx
        have h2 : vy = .bool y := hy
        subst h1 h2
        simp [Op.equalIn, run_under hq]
      · cases h
    · rename_i hq
      split at h
      · rename_i x y
        simp only [Option.some.injEq] at h
        subst h
        have h1 : vx = .string x := hx
        have h2 : vy = .string y := hy
        subst h1 h2
        simp [Op.equalIn, run_under hq, beq_toListBytes]
      · cases h
    · rename_i fs hq
      split at h
      · rename_i es es'
        split at h
        · cases h
        · rename_i hst
          obtain ⟨A, rfl, hA⟩ := hx
          obtain ⟨B, rfl, hB⟩ := hy
          have hf : P.fieldsOf t = fs := by simp [Program.fieldsOf, hq]
          rw [run_equalIn_struct w (d + 1) t A B (by rw [hf]; exact hq) (by simpa using hst), hf]
          exact eqFs_run (fun t' v1 v2 e1 h1 x y hx' hy' w' => eqT_run f t' v1 v2 e1 h1 x y hx' hy' w' (d + 1) (by omega)) hA hB w _ _ h
      · cases h
    · rename_i n e' hq
      split at h
      · split at h
        · rename_i k n1 l k' n2 l' hk
          subst hk
          split at h
          · rename_i hc
            obtain ⟨c1, c2, c3, c4, rfl, rfl, c7⟩ := hc
            simp only [Option.some.injEq, cast_refl] at h
            subst h
            obtain ⟨A, rfl, x1, x2, hA, ⟨hl, rfl⟩, rfl⟩ := hx
            obtain ⟨B, rfl, y1, y2, hB, ⟨hl', rfl⟩, rfl⟩ := hy
            rw [List.append_nil] at hA hB
            obtain ⟨i, hi, hsz⟩ := szOf_info c4 (by omega)
            have hA' : A = (cvs k l).toArray := by rw [← hA]
            have hB' : B = (cvs k l').toArray := by rw [← hB]
            rw [hA', hB']
            exact lbeq_run hi hsz c1 c3 c2 (hl.resolve_left (by omega)) (hl'.resolve_left (by omega)) t hq w
          · cases h
        · cases h
      · cases h
    · cases h

theorem eq_of {t : TypeId} {vx vy : Value} {e : Bool} {w : World} (hr : (Op.equalIn 10000 t vx vy).run P w = .ok e w)
    (h1 : binOp .eql t vx vy = (do pure (.bool (← Op.equal t vx vy)))) (h2 : binOp .neq t vx vy = (do pure (.bool (!(← Op.equal t vx vy))))) :
    (binOp .eql t vx vy).run P w = .ok (.bool e) w ∧ (binOp .neq t vx vy).run P w = .ok (.bool (!e)) w := by
  have hr' : (Op.equal t vx vy).run P w = .ok e w := hr
  rw [h1, h2]
  simp only [Sem.run_bind, hr', Result.andThen_ok, Sem.run_pure, and_self]

theorem eqIn_bool {d : Nat} {t : TypeId} {a b : Bool} {w : World} (hu : P.underlying t = some .bool) : (Op.equalIn (d + 1) t (.bool a) (.bool b)).run P w = .ok (a == b) w := by
  simp [Op.equalIn, run_under hu]
theorem eqIn_nil {d : Nat} {t el : TypeId} {b : Option Addr} {w : World} (hu : P.underlying t = some (.pointer el)) : (Op.equalIn (d + 1) t (.pointer none) (.pointer b)).run P w = .ok b.isNone w := by
  simp [Op.equalIn, run_under hu]
theorem eqIn_ptr {d : Nat} {t el : TypeId} {a : Addr} {w : World} (hu : P.underlying t = some (.pointer el)) : (Op.equalIn (d + 1) t (.pointer (some a)) (.pointer none)).run P w = .ok false w := by
  simp [Op.equalIn, run_under hu]
theorem eqIn_nils {d : Nat} {t el : TypeId} {w : World} (hu : P.underlying t = some (.slice el)) : (Op.equalIn (d + 1) t (.slice none 0 0) (.slice none 0 0)).run P w = .ok true w := by
  simp [Op.equalIn, run_under hu]

theorem guard_bool {op : BinOp} {t : TypeId} {p q : Operand} {a : Bool} {y : Value} {w : World} : (eqGuard op t p q (.bool a) y).run P w = .ok () w := by unfold eqGuard; split <;> simp
theorem guard_ptr {op : BinOp} {t : TypeId} {p q : Operand} {a : Option Addr} {y : Value} {w : World} : (eqGuard op t p q (.pointer a) y).run P w = .ok () w := by unfold eqGuard; split <;> simp
theorem guard_slice {op : BinOp} {t : TypeId} {p q : Operand} {a : Option Addr} {n c : Nat} {y : Value} {w : World} : (eqGuard op t p q (.slice a n c) y).run P w = .ok () w := by unfold eqGuard; split <;> simp

theorem eqlV_run {t : TypeId} {x y : AV} {e : Bool} (h : eqlV P t x y = some e) {vx vy : Value} (hx : AVRel m x vx) (hy : AVRel m y vy) (w : World) :
    (∀ op p q, (eqGuard op t p q vx vy).run P w = .ok () w) ∧ (binOp .eql t vx vy).run P w = .ok (.bool e) w ∧ (binOp .neq t vx vy).run P w = .ok (.bool (!e)) w := by
  unfold eqlV at h
  split at h
  · rename_i a b
    split at h
    · rename_i hu
      simp only [Option.some.injEq] at h
      subst h
      have h1 : vx = .bool a := hx
      have h2 : vy = .bool b := hy
      subst h1 h2
      exact ⟨fun op p q => guard_bool, eq_of (eqIn_bool (d := 9999) hu) rfl rfl⟩
    · cases h
  · split at h
    · rename_i el hu
      simp only [Option.some.injEq] at h
      subst h
      have h1 : vx = .pointer none := hx
      have h2 : vy = .pointer none := hy
      subst h1 h2
      exact ⟨fun op p q => guard_ptr, eq_of (eqIn_nil (d := 9999) hu) rfl rfl⟩
    · cases h
  · split at h
    · rename_i el hu
      simp only [Option.some.injEq] at h
      subst h
      obtain ⟨g, b, _, _, h1⟩ := hx
      have h2 : vy = .pointer none := hy
      subst h1 h2
      exact ⟨fun op p q => guard_ptr, eq_of (eqIn_ptr (d := 9999) hu) rfl rfl⟩
    · cases h
  · split at h
    · rename_i el hu
      simp only [Option.some.injEq] at h
      subst h
      have h1 : vx = .pointer none := hx
      obtain ⟨g, b, _, _, h2⟩ := hy
      subst h1 h2
      exact ⟨fun op p q => guard_ptr, eq_of (eqIn_nil (d := 9999) hu) rfl rfl⟩
    · cases h
  · split at h
    · rename_i el hu
      simp only [Option.some.injEq] at h
      subst h
      have h1 : vx = .slice none 0 0 := hx
      have h2 : vy = .slice none 0 0 := hy
      subst h1 h2
      exact ⟨fun op p q => guard_slice, eq_of (eqIn_nils (d := 9999) hu) rfl rfl⟩
    · cases h
  · rename_i l l'
    split at h
    · cases h
    · rename_i hgd
      have hq := eqT_run 8 t _ _ _ h vx vy hx hy w 10000 (by omega)
      obtain ⟨A, rfl, _⟩ := hx
      obtain ⟨B, rfl, _⟩ := hy
      refine ⟨fun op p q => run_eqGuard_agg w op t p q A B (by simpa using hgd), ?_, ?_⟩
      · rw [run_eql_struct, hq]; rfl
      · rw [run_neq_struct, hq]; rfl
  · cases h

theorem pure_unOp (he : ERel m env a) {op : UnOp} {t : TypeId} {x : Operand} (ho : o.op = .unOp op t x) (hev : evPure P o env h K = some r) : PureOK P m w a o K r := by
  simp only [evPure, ho] at hev
  split at hev
  · rename_i b hx
    have hv : a.eval x = .bool b := opd_rel he hx
    exact ⟨_, _, hev, rfl, fun w' _ => by simp [execOp, ho, hv, Op.unary]⟩
  · rename_i k n hx
    have hv : a.eval x = .int k n := opd_rel he hx
    exact ⟨_, _, hev, rfl, fun w' _ => by simp [execOp, ho, hv, Op.unary, Op.intArith]⟩
  · rename_i k n hx
    have hv : a.eval x = .int k n := opd_rel he hx
    simp only [intOp] at hev
    exact ⟨_, _, hev, rfl, fun w' _ => by simp only [execOp, ho, hv, Op.unary]; rfl⟩
  · cases hev

end
end Go.Proofs.Ytlokielmpdjedaa.Ev
