/- The evaluator is sound, seventh part: what is built; all that turns no memory. -/
import Derived.Test.YtlokielmpdjedaaEvS6
namespace Go.Proofs.Ytlokielmpdjedaa.Ev
open Go
set_option linter.unusedVariables false

variable {P : Program}

theorem foldl_push (ns : List Int) : ∀ s : ByteArray, ns.foldl (fun r n => r.push (UInt8.ofNat n.toNat)) s = ⟨s.data ++ (ns.map fun n => UInt8.ofNat n.toNat).toArray⟩ := by
  induction ns with
  | nil => intro s; simp
  | cons n ns ih =>
    intro s
    rw [List.foldl_cons, ih]
    congr 1
    simp [ByteArray.push]

theorem ofInts_fold (ns : List Int) : ns.foldl (fun r n => r.push (UInt8.ofNat n.toNat)) ByteArray.empty = ofInts ns := by
  rw [foldl_push]
  simp [ofInts, ByteArray.empty, ByteArray.emptyWithCapacity]
  rfl

theorem setAll_list (vs : List Value) : ∀ (off k : Nat) (cs : Array Value), off + k + vs.length ≤ cs.size →
    ((vs.zipIdx k).foldl (fun cs (p : Value × Nat) => cs.setIfInBounds (off + p.2) p.1) cs).toList = cs.toList.take (off + k) ++ (vs ++ cs.toList.drop (off + k + vs.length)) := by
  induction vs with
  | nil => intro off k cs h; simp
  | cons v vs ih =>
    intro off k cs h
    simp only [List.zipIdx_cons, List.foldl_cons]
    simp only [List.length_cons] at h
    rw [ih off (k + 1) _ (by simp; omega)]
    simp only [Array.toList_setIfInBounds, List.length_cons]
    rw [List.take_set, List.drop_set_of_lt (by omega)]
    have h1 : off + k < cs.toList.length := by simp; omega
    rw [show off + (k + 1) = off + k + 1 by omega, List.take_succ_eq_append_getElem h1, List.set_append_right _ _ (by simp; omega)]
    have : (cs.toList.take (off + k)).length = off + k := by rw [List.length_take]; omega
    rw [this, Nat.sub_self]
    simp only [List.set_cons_zero, List.append_assoc, List.cons_append, List.nil_append]
    congr 3
    congr 1; omega

theorem fill_step {v : Value} {off : Nat} {cs : Array Value} (h : off + v.cells.size ≤ cs.size) :
    (v.cells.zipIdx.foldl (fun cs (p : Value × Nat) => cs.setIfInBounds (off + p.2) p.1) cs).toList = cs.toList.take off ++ (v.cells.toList ++ cs.toList.drop (off + v.cells.toList.length)) := by
  have := setAll_list v.cells.toList off 0 cs (by simpa using h)
  rw [← Array.foldl_toList]
  simpa using this

section
variable {G : Ctx} {m : GM} {h : Heap} {w : World} {a : Act} {env : Env} {o : Oper} {K : AV → Option Res} {r : Res}

/-- The parts' values. -/
def Parts (m : GM) (ev : Operand → Value) : List (Nat × Operand) → List (Nat × TV) → Prop
  | [], [] => True
  | (i, x) :: r, (j, v) :: s => i = j ∧ TVRel m v (ev x) ∧ Parts m ev r s
  | _, _ => False

theorem partsOf_rel (he : ERel m env a) {ty : Nat → TypeId} : ∀ {l : List (Nat × Operand)} {ps : List (Nat × TV)}, partsOf P env ty l = some ps → Parts m a.eval l ps
  | [], ps, h => by simp only [partsOf, Option.some.injEq] at h; subst h; trivial
  | (i, x) :: r, ps, h => by
    simp only [partsOf] at h
    split at h
    · rename_i v hv
      split at h
      · rename_i l hl
        simp only [Option.some.injEq] at h
        subst h
        exact ⟨rfl, opd_rel he hv, partsOf_rel he hl⟩
      · cases h
    · cases h

theorem fill_struct {place : Nat → Option (Nat × Nat)} {cplace : Nat → Option (Nat × Nat)} (hp : ∀ i q, place i = some q → cplace i = some q) {ev : Operand → Value} :
    ∀ (l : List (Nat × Operand)) (ps : List (Nat × TV)) (es es' : List LV) (cs : Array Value), Parts m ev l ps → putParts place es ps = some es' → OCells m es cs.toList →
      ∃ cs', Instr.fill cplace cs (l.map fun p => (p.1, ev p.2)) = some cs' ∧ OCells m es' cs'.toList
  | [], [], es, es', cs, _, h, ho => by
    simp only [putParts, Option.some.injEq] at h
    subst h
    exact ⟨cs, rfl, ho⟩
  | (i, x) :: l, (j, v) :: ps, es, es', cs, hpt, h, ho => by
    obtain ⟨rfl, hv, hpt⟩ := hpt
    simp only [putParts] at h
    split at h
    · rename_i off n hpl
      split at h
      · rename_i hw
        split at h
        · rename_i es1 hput
          have hn := wOf_cells hw hv.ents
          obtain ⟨h1, h2⟩ := putW_cells hput ho hv.ents
          have hsz : (ev x).cells.size = n := by simpa using hn
          have hle : off + (ev x).cells.size ≤ cs.size := by simpa using h1
          have hf := fill_step hle
          obtain ⟨cs', h3, h4⟩ := fill_struct hp l ps es1 es' ((ev x).cells.zipIdx.foldl (fun cs (p : Value × Nat) => cs.setIfInBounds (off + p.2) p.1) cs) hpt h (by rw [hf]; exact h2)
          refine ⟨cs', ?_, h4⟩
          simp only [List.map_cons, Instr.fill, hp i _ hpl]
          rw [if_neg (by simp [hsz]; omega)]
          exact h3
        · cases h
      · cases h
    · cases h
  | [], _ :: _, _, _, _, hpt, _, _ => hpt.elim
  | _ :: _, [], _, _, _, hpt, _, _ => hpt.elim

theorem cvs_set (k : EK) (l : List k.den) (i : Nat) (x : k.den) (hi : i < l.length) :
    cvs k (l.set i x) = (cvs k l).take (i * k.w) ++ (k.cv x ++ (cvs k l).drop (i * k.w + (k.cv x).length)) := by
  rw [List.set_eq_take_append_cons_drop, if_pos hi, cvs_append, cvs_take]
  congr 1
  simp only [cvs]
  congr 1
  rw [cvs_drop, cv_length, Nat.add_mul, Nat.one_mul]

theorem fill_elems {k : EK} {sz : Nat} (hsz : sz = k.w) {ev : Operand → Value} :
    ∀ (l : List (Nat × Operand)) (ps : List (Nat × TV)) (xs ys : List k.den) (cs : Array Value), Parts m ev l ps → putElems k xs ps = some ys → cs.toList = cvs k xs →
      ∃ cs', Instr.fill (fun i => some (i * sz, sz)) cs (l.map fun p => (p.1, ev p.2)) = some cs' ∧ cs'.toList = cvs k ys ∧ ys.length = xs.length
  | [], [], xs, ys, cs, _, h, ho => by
    simp only [putElems, Option.some.injEq] at h
    subst h
    exact ⟨cs, rfl, ho, rfl⟩
  | (i, x) :: l, (j, v) :: ps, xs, ys, cs, hpt, h, ho => by
    obtain ⟨rfl, hv, hpt⟩ := hpt
    simp only [putElems] at h
    split at h
    · rename_i y hy
      split at h
      · rename_i hlt
        have hc := of1_cells k hy hv.ents
        have hsv : (ev x).cells.size = k.w := by
          have := congrArg List.length hc
          rw [cv_length] at this
          simpa using this
        have hcs : cs.size = xs.length * k.w := by
          have := congrArg List.length ho
          rw [cvs_length] at this
          simpa using this
        have hle : i * sz + (ev x).cells.size ≤ cs.size := by
          have : (i + 1) * k.w ≤ xs.length * k.w := Nat.mul_le_mul_right _ hlt
          rw [Nat.add_mul] at this
          rw [hsv, hcs, hsz]; omega
        have hf := fill_step hle
        obtain ⟨cs', h3, h4, h5⟩ := fill_elems hsz l ps (xs.set i y) ys ((ev x).cells.zipIdx.foldl (fun cs (p : Value × Nat) => cs.setIfInBounds (i * sz + p.2) p.1) cs) hpt h (by
          rw [hf, cvs_set k xs i y hlt, ho, hc, hsz])
        refine ⟨cs', ?_, h4, by simpa using h5⟩
        simp only [List.map_cons, Instr.fill]
        rw [if_neg (by simp [hsv, hsz]; rw [hsv, hsz] at hle; exact hle)]
        exact h3
      · cases h
    · cases h
  | [], _ :: _, _, _, _, hpt, _, _ => hpt.elim
  | _ :: _, [], _, _, _, hpt, _, _ => hpt.elim

theorem zero_run {t : TypeId} {i : TypeInfo} {v : Value} (hi : P.info? t = some i) (hz : i.zero = some v) (w : World) : (zeroValue t).run P w = .ok v w := by
  simp [zeroValue, typeInfo, hi, hz]


theorem mapM_places (w : World) : ∀ (fs : List Field), (∀ fd ∈ fs, ∃ i, P.info? fd.type = some i) →
    ((fs.mapM fun f => do pure (f.offset, ← sizeOf f.type) : Sem (List (Nat × Nat)))).run P w = .ok (fs.map fun f => (f.offset, szOf P f.type)) w
  | [], _ => by simp
  | f :: fs, hf => by
    obtain ⟨i, hi⟩ := hf f (List.mem_cons_self ..)
    have ih := mapM_places w fs (fun fd h => hf fd (List.mem_cons_of_mem _ h))
    have hsz : szOf P f.type = i.size := by simp [szOf, hi]
    simp only [List.mapM_cons, Sem.run_bind, run_size hi, Result.andThen_ok, Sem.run_pure, ih, hsz, List.map_cons]

theorem pure_build (he : ERel m env a) {t : TypeId} {parts : Array (Nat × Operand)} (ho : o.op = .build t parts) (hev : evPure P o env h K = some r) : PureOK P m w a o K r := by
  simp only [evPure, ho] at hev
  split at hev
  · rename_i fs ht
    split at hev
    · cases hev
    rename_i hall
    have hin : ∀ fd ∈ fs.toList, ∃ i, P.info? fd.type = some i := by
      intro fd hfd
      have h1 : (fs.toList.all fun fd => (P.info? fd.type).isSome) = true := by
        cases hq : (fs.toList.all fun fd => (P.info? fd.type).isSome) with
        | true => rfl
        | false => exact absurd (by rw [hq]; rfl) hall
      have := List.all_eq_true.1 h1 fd hfd
      exact Option.isSome_iff_exists.1 this
    split at hev
    · rename_i es ps hz hps
      split at hev
      · rename_i es' hput
        obtain ⟨i, z, hi, hzz, hoc⟩ := zeroE_cells (m := m) hz
        have hpt := partsOf_rel he hps
        obtain ⟨cs', hf, hoc'⟩ := fill_struct (cplace := fun i => (fs.toList.map fun f => (f.offset, szOf P f.type))[i]?) (by
          intro i q hq
          simp only [Array.getElem?_toList, List.getElem?_map]
          split at hq
          · rename_i fd hfd
            simp only [Option.some.injEq] at hq
            simp [hfd, hq]
          · cases hq) parts.toList ps es es' z.cells hpt hput hoc
        refine ⟨_, .agg cs', hev, ⟨cs', rfl, hoc'⟩, fun w' _ => ?_⟩
        have hmp := mapM_places (P := P) w' fs.toList hin
        have hmp' : ((fs.mapM fun f => do pure (f.offset, ← sizeOf f.type) : Sem (Array (Nat × Nat)))).run P w' = .ok (fs.toList.map fun f => (f.offset, szOf P f.type)).toArray w' := by
          rw [Array.mapM_eq_mapM_toList]
          rw [Sem.run_map, hmp]
          rfl
        have hparts : (parts.map fun (x : Nat × Operand) => (x.1, a.eval x.2)).toList = parts.toList.map fun p => (p.1, a.eval p.2) := by simp
        simp only [execOp, ho, Instr.build, Sem.run_bind, zero_run hi hzz, Result.andThen_ok, run_under ht, hmp', hparts, List.getElem?_toArray, hf, Sem.run_pure]
      · cases hev
    · cases hev
  · rename_i n e ht
    split at hev
    · rename_i k n' l ps hz hps
      split at hev
      · cases hev
      · rename_i hsz
        split at hev
        · rename_i l' hput
          obtain ⟨i, z, hi, hzz, hoc⟩ := zeroE_cells (m := m) hz
          have hpt := partsOf_rel he hps
          obtain ⟨c1, c2, hc, ⟨hl, rfl⟩, rfl⟩ := hoc
          rw [List.append_nil] at hc
          have hsz' : szOf P e = k.w := by simpa using hsz
          obtain ⟨ie, hie, hiz⟩ := szOf_info hsz' k.w_pos
          obtain ⟨cs', hf, hc', hlen⟩ := fill_elems (k := k) (sz := ie.size) hiz parts.toList ps l l' z.cells hpt hput hc
          refine ⟨_, .agg cs', hev, ⟨cs', rfl, cvs k l', [], by rw [hc', List.append_nil], ⟨by rw [hlen]; exact hl, rfl⟩, rfl⟩, fun w' _ => ?_⟩
          have hparts : (parts.map fun (x : Nat × Operand) => (x.1, a.eval x.2)).toList = parts.toList.map fun p => (p.1, a.eval p.2) := by simp
          simp only [execOp, ho, Instr.build, Sem.run_bind, zero_run hi hzz, Result.andThen_ok, run_under ht, run_size hie, hparts, hf, Sem.run_pure]
        · cases hev
    · cases hev
  · cases hev

theorem pure_convert (hi : Inv G m h w) (he : ERel m env a) {src dst : TypeId} {x : Operand} (ho : o.op = .convert src dst x) (hev : evPure P o env h K = some r) : PureOK P m w a o K r := by
  simp only [evPure, ho] at hev
  split at hev
  · rename_i d k q n hs hd hx
    have hv : a.eval x = .int q n := opd_rel he hx
    exact ⟨_, _, hev, rfl, fun w' _ => by simp [execOp, ho, hv, convert, run_under hs, run_under hd, Conv.intToInt]⟩
  · rename_i d s hs hd hx
    have hv : a.eval x = .string s := opd_rel he hx
    exact ⟨_, _, hev, rfl, fun w' _ => by simp [execOp, ho, hv, convert, run_under hs, run_under hd]⟩
  · rename_i e x' hne hs hd hx
    have hv := opd_rel he hx
    split at hev
    · rename_i l hu hsz hvis
      obtain ⟨hlen, hfst, hsl⟩ := visK_run (P := P) hi hv hvis
      have hshape : ∃ A L C, a.eval x = .slice A L C := by
        unfold visK at hvis
        split at hvis
        · exact ⟨none, 0, 0, hv⟩
        · rename_i s; exact (hne s rfl).elim
        · split at hvis
          · rename_i k' l' hvv
            unfold vis at hvv
            split at hvv
            · obtain ⟨_, _, _, A, C, _, hq, _⟩ := hv; exact ⟨_, _, _, hq⟩
            · obtain ⟨_, A, C, _, hq, _⟩ := hv; exact ⟨_, _, _, hq⟩
            · cases hvv
          · cases hvis
      obtain ⟨A, L, C, hval⟩ := hshape
      obtain ⟨rfl, hrd⟩ := hsl A L C hval
      refine ⟨_, .string (ofInts l), hev, rfl, fun w' e => ?_⟩
      have hcv : ∀ l : List Int, cvs (.int .u8) l = l.map (Value.int .u8) := by
        intro l
        induction l with
        | nil => rfl
        | cons c l ih => simp only [List.map_cons, cvs, EK.cv, ih]; rfl
      have hb : (Conv.bytesToString (.slice A l.length C)).run P w' = .ok (.string (ofInts l)) w' := by
        cases A with
        | none =>
          have : l.length = 0 := Classical.byContradiction fun hne => by
            obtain ⟨p, hp, _⟩ := hrd w' e hne
            cases hp
          have hl0 : l = [] := List.eq_nil_of_length_eq_zero this
          subst hl0
          simp [Conv.bytesToString]
          rfl
        | some p =>
          have hld : (loadCells p l.length).run P w' = .ok (l.map (Value.int .u8)).toArray w' := by
            have := run_loadCells_list (P := P) (w := w') p (cvs (.int .u8) l) (fun j u hu => by
              have hne : l.length ≠ 0 := by
                intro hz
                have : l = [] := List.eq_nil_of_length_eq_zero hz
                subst this
                cases hu
              obtain ⟨p', hp', hc⟩ := hrd w' e hne
              cases hp'
              exact hc j u hu)
            rw [cvs_length] at this
            simp only [EK.w, Nat.mul_one] at this
            rw [this, hcv]
          rw [run_bytesToString w' p l.length C l hld, ofInts_fold]
      simp only [execOp, ho, hval, Sem.run_bind, run_convert_bytes_string w' src dst _ A l.length C hs hu hd, hb, Result.andThen_ok, Sem.run_pure]
    · cases hev
  · cases hev

def ArgsR (m : GM) (ev : Operand → Value) : List Operand → List TV → Prop
  | [], [] => True
  | x :: r, v :: s => TVRel m v (ev x) ∧ ArgsR m ev r s
  | _, _ => False

theorem argVals_rel (he : ERel m env a) : ∀ {l : List Operand} {ts : List TypeId} {vs : List TV}, argVals P env l ts = some vs → ArgsR m a.eval l vs
  | [], ts, vs, h => by simp only [argVals, Option.some.injEq] at h; subst h; trivial
  | x :: r, ts, vs, h => by
    simp only [argVals] at h
    split at h
    · rename_i v hv
      split at h
      · rename_i l hl
        simp only [Option.some.injEq] at h
        subst h
        exact ⟨opd_rel he hv, argVals_rel he hl⟩
      · cases h
    · cases h

theorem ArgsR.one {l : List Operand} {v : TV} (h : ArgsR m a.eval l [v]) : ∃ x, l = [x] ∧ TVRel m v (a.eval x) := by
  match l, h with
  | [x], h => exact ⟨x, rfl, h.1⟩

theorem ArgsR.two {l : List Operand} {v u : TV} (h : ArgsR m a.eval l [v, u]) : ∃ x y, l = [x, y] ∧ TVRel m v (a.eval x) ∧ TVRel m u (a.eval y) := by
  match l, h with
  | [x, y], h => exact ⟨x, y, rfl, h.1, h.2.1⟩

theorem ArgsR.vals {l : List Operand} : ∀ {vs : List TV}, ArgsR m a.eval l vs → TVs m vs (l.map a.eval) := by
  induction l with
  | nil => intro vs h; cases vs <;> exact h
  | cons x r ih =>
    intro vs h
    cases vs with
    | nil => exact h.elim
    | cons v s => exact ⟨h.1, ih h.2⟩

theorem run_builtin (c : Call) {b : Builtin} (hc : c.callee = .builtin b) (ho : o.op = .call c) : ∃ consts, ∀ w' : World,
    (execOp a.eval o).run P w' = (builtin b c.argTypes o.type consts (c.args.map a.eval)).run P w' :=
  ⟨_, fun w' => by simp only [execOp, ho, resolve, hc, Sem.run_bind, Sem.run_pure, Result.andThen_ok, invoke]; rfl⟩

theorem arg0_of {c : Call} {d : TypeDesc} (h : arg0T P c = some d) : ∃ t, c.argTypes[0]? = some t ∧ P.underlying t = some d := by
  unfold arg0T at h
  split at h
  · rename_i t ht; exact ⟨t, ht, h⟩
  · cases h

theorem args1 {c : Call} {x : Operand} (h : c.args.toList = [x]) : c.args.map a.eval = #[a.eval x] := by
  apply Array.ext'
  simp [h]
theorem args2 {c : Call} {x y : Operand} (h : c.args.toList = [x, y]) : c.args.map a.eval = #[a.eval x, a.eval y] := by
  apply Array.ext'
  simp [h]

theorem pure_call (hi : Inv G m h w) (he : ERel m env a) {c : Call} (ho : o.op = .call c) (hev : evPure P o env h K = some r) : PureOK P m w a o K r := by
  simp only [evPure, ho] at hev
  split at hev
  · rename_i hc
    obtain ⟨consts, hrun⟩ := run_builtin (P := P) (a := a) c hc ho
    split at hev
    · rename_i s hargs ht
      obtain ⟨x, hl, hx⟩ := (argVals_rel he hargs).one
      have hv : a.eval x = .string s := hx
      obtain ⟨t, ht0, htu⟩ := arg0_of ht
      refine ⟨_, _, hev, rfl, fun w' _ => ?_⟩
      rw [hrun, args1 hl, hv]
      simp [builtin, Builtin.len_, ht0, run_under htu, goInt]
    · rename_i q e hargs ht
      obtain ⟨x, hl, hx⟩ := (argVals_rel he hargs).one
      have hv : a.eval x = .slice none 0 0 := hx
      obtain ⟨t, ht0, htu⟩ := arg0_of ht
      refine ⟨_, _, hev, rfl, fun w' _ => ?_⟩
      rw [hrun, args1 hl, hv]
      simp [builtin, Builtin.len_, ht0, run_under htu, goInt]
    · rename_i x' e hne1 hne2 hargs ht
      split at hev
      · rename_i id off lo len cap hsf
        obtain ⟨x, hl, hx⟩ := (argVals_rel he hargs).one
        obtain ⟨g, A, C, _, hv, _⟩ := sliceForm_rel hi hsf hx
        obtain ⟨t, ht0, htu⟩ := arg0_of ht
        refine ⟨_, _, hev, rfl, fun w' _ => ?_⟩
        rw [hrun, args1 hl, hv]
        simp [builtin, Builtin.len_, ht0, run_under htu, goInt]
      · cases hev
    · cases hev
  · rename_i hc
    obtain ⟨consts, hrun⟩ := run_builtin (P := P) (a := a) c hc ho
    split at hev
    · rename_i k x' k' y' hargs
      obtain ⟨x, y, hl, hx, hy⟩ := (argVals_rel he hargs).two
      have hv : a.eval x = .int k x' := hx
      have hv' : a.eval y = .int k' y' := hy
      refine ⟨_, _, hev, rfl, fun w' _ => ?_⟩
      rw [hrun, args2 hl, hv, hv']
      simp [builtin, Builtin.min_, Builtin.min2]
    · cases hev
  · rename_i hc
    obtain ⟨consts, hrun⟩ := run_builtin (P := P) (a := a) c hc ho
    split at hev
    · rename_i k x' k' y' hargs
      obtain ⟨x, y, hl, hx, hy⟩ := (argVals_rel he hargs).two
      have hv : a.eval x = .int k x' := hx
      have hv' : a.eval y = .int k' y' := hy
      refine ⟨_, _, hev, rfl, fun w' _ => ?_⟩
      rw [hrun, args2 hl, hv, hv']
      simp [builtin, Builtin.max_, Builtin.max2]
    · cases hev
  · cases hev

theorem eqIn_slnil {d : Nat} {t el : TypeId} {A : Option Addr} {n c : Nat} {w : World} (hu : P.underlying t = some (.slice el)) : (Op.equalIn (d + 1) t (.slice A n c) (.slice none 0 0)).run P w = .ok A.isNone w := by
  cases A <;> simp [Op.equalIn, run_under hu]

theorem nilTest_rel (hi : Inv G m h w) {t : TypeId} {x y : AV} {n : Nat} (hn : nilTest P h t x y = some n) {vx vy : Value} (hx : AVRel m x vx) (hy : AVRel m y vy) :
    ∃ b, (0 < n → b = false) ∧ ∀ w', (∀ op p q, (eqGuard op t p q vx vy).run P w' = .ok () w') ∧ (binOp .eql t vx vy).run P w' = .ok (.bool b) w' ∧ (binOp .neq t vx vy).run P w' = .ok (.bool (!b)) w' := by
  have key : ∀ {id off lo len : Nat} {cap : Option Nat} {el : TypeId}, P.underlying t = some (.slice el) → SlRel m id off lo len cap vx → vy = .slice none 0 0 →
      ∃ b, (0 < len → b = false) ∧ ∀ w', (∀ op p q, (eqGuard op t p q vx vy).run P w' = .ok () w') ∧ (binOp .eql t vx vy).run P w' = .ok (.bool b) w' ∧ (binOp .neq t vx vy).run P w' = .ok (.bool (!b)) w' := by
    rintro id off lo len cap el hu ⟨g, A, C, hg, rfl, hle, hcap, hlen, hA⟩ rfl
    refine ⟨A.isNone, fun h0 => ?_, fun w' => ⟨fun op p q => guard_slice, eq_of (P := P) (w := w') (e := A.isNone) (eqIn_slnil (d := 9999) hu) rfl rfl⟩⟩
    · rcases hA with hA | ⟨b, _, rfl, _⟩
      · omega
      · rfl
  unfold nilTest at hn
  split at hn
  · split at hn
    · rename_i hu hs
      simp only [Option.some.injEq] at hn
      subst hn
      exact key hu (sliceForm_rel hi hs hx) hy
    · cases hn
  · split at hn
    · rename_i hu
      simp only [Option.some.injEq] at hn
      subst hn
      exact key hu hx hy
    · cases hn
  · cases hn

theorem pure_binOp (hi : Inv G m h w) (he : ERel m env a) {op : BinOp} {xt yt : TypeId} {x y : Operand} (ho : o.op = .binOp op xt x y yt) (hev : evPure P o env h K = some r) : PureOK P m w a o K r := by
  simp only [evPure, ho] at hev
  split at hev
  · rename_i ax ay hx hy
    have hx' := opd_rel he hx
    have hy' := opd_rel he hy
    split at hev
    · rename_i e he'
      have hq := fun w => eqlV_run he' hx' hy' w
      split at hev
      · exact ⟨_, _, hev, rfl, fun w' _ => by simp [execOp, ho, (hq w').1, (hq w').2.1]⟩
      · exact ⟨_, _, hev, rfl, fun w' _ => by simp [execOp, ho, (hq w').1, (hq w').2.2]⟩
      · cases hev
    · split at hev
      · rename_i n hn
        obtain ⟨b, hb, hrun⟩ := nilTest_rel hi hn hx' hy'
        split at hev
        · have hk : K (.tv (.lf (.bool b))) = some r := by
            by_cases h0 : 0 < n
            · rw [hb h0]; simpa [h0] using hev
            · simp only [h0, decide_false, cond_false] at hev
              obtain ⟨h1, h2⟩ := amb_some hev
              cases b <;> assumption
          exact ⟨_, .bool b, hk, rfl, fun w' _ => by simp [execOp, ho, (hrun w').1, (hrun w').2.1]⟩
        · have hk : K (.tv (.lf (.bool (!b)))) = some r := by
            by_cases h0 : 0 < n
            · rw [hb h0]; simpa [h0] using hev
            · simp only [h0, decide_false, cond_false] at hev
              obtain ⟨h1, h2⟩ := amb_some hev
              cases b <;> assumption
          exact ⟨_, .bool (!b), hk, rfl, fun w' _ => by simp [execOp, ho, (hrun w').1, (hrun w').2.2]⟩
        · cases hev
      · obtain ⟨lv, v, h1, h2, h3⟩ := binOpV_run (P := P) hev hx' hy' xt
        exact ⟨_, v, h1, h2, fun w' _ => by simp [execOp, ho, (h3 w').1, (h3 w').2]⟩
  · cases hev

theorem evPure_sound (hi : Inv G m h w) (he : ERel m env a) (hev : evPure P o env h K = some r) : PureOK P m w a o K r := by
  cases ho : o.op with
  | move x => exact pure_move he (.inl ho) hev
  | assign x => exact pure_move he (.inr ho) hev
  | pick c x y => exact pure_pick he ho hev
  | load t x => exact pure_load hi he ho hev
  | nilCheck x => exact pure_nilCheck he ho hev
  | binOp op xt x y yt => exact pure_binOp hi he ho hev
  | unOp op t x => exact pure_unOp he ho hev
  | convert src dst x => exact pure_convert hi he ho hev
  | slice t x lo hh mx => exact pure_slice hi he ho hev
  | fieldAddr s x f => exact pure_fieldAddr he ho hev
  | field s x f => exact pure_field he ho hev
  | indexAddr t x ix => exact pure_indexAddr hi he ho hev
  | index t x ix => exact pure_index he ho hev
  | extract x i => exact pure_extract he ho hev
  | build t ps => exact pure_build he ho hev
  | call c => exact pure_call hi he ho hev
  | _ => simp only [evPure, ho] at hev; cases hev

end
end Go.Proofs.Ytlokielmpdjedaa.Ev
