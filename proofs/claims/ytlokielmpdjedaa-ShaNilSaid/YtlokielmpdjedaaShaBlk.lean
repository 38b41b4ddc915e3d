/- SHA-256: a block, as the code reckons it: the region that makes three variables in any order, and what is behind it. -/
import Derived.Test.YtlokielmpdjedaaShaRest
import Derived.Test.YtlokielmpdjedaaShaA
import Derived.Test.YtlokielmpdjedaaEvMultiDef
namespace Go.Proofs.Ytlokielmpdjedaa.X
open Go Go.Proofs.Ytlokielmpdjedaa.Ev Go.Proofs
set_option linter.unusedVariables false

def k64 : List Int := [1116352408, 1899447441, 3049323471, 3921009573, 961987163, 1508970993, 2453635748, 2870763221, 3624381080, 310598401, 607225278, 1426881987, 1925078388, 2162078206, 2614888103, 3248222580, 3835390401, 4022224774, 264347078, 604807628, 770255983, 1249150122, 1555081692, 1996064986, 2554220882, 2821834349, 2952996808, 3210313671, 3336571891, 3584528711, 113926993, 338241895, 666307205, 773529912, 1294757372, 1396182291, 1695183700, 1986661051, 2177026350, 2456956037, 2730485921, 2820302411, 3259730800, 3345764771, 3516065817, 3600352804, 4094571909, 275423344, 430227734, 506948616, 659060556, 883997877, 958139571, 1322822218, 1537002063, 1747873779, 1955562222, 2024104815, 2227730452, 2361852424, 2428436474, 2756734187, 3204031479, 3329325298]

noncomputable def ops94 : Array Oper := match cL (cR code94) with | .region _ ops _ => ops | _ => #[]
noncomputable def opB (i : Nat) : Oper := ops94.getD i default

theorem opsB_size : ops94.size = 10 := by kernel_rfl
theorem opsB_back : backB ops94 = true := by kernel_rfl
theorem opsB_get {i : Nat} (h : i < 10) : ops94[i]? = some (opB i) := by
  have : i < ops94.size := by rw [opsB_size]; exact h
  rw [Array.getElem?_eq_getElem this]
  simp [opB, this]

theorem gB0 : ((List.range 10).all fun i => (opB i).guard.isNone) = true := by kernel_rfl
theorem gB (i : Nat) (h : i < 10) : (opB i).guard = none := by
  have := List.all_eq_true.1 gB0 i (List.mem_range.2 h)
  simpa using this

/-- An operation that waits for another one comes up behind it. -/
noncomputable def waits1 (i j : Nat) : Bool := (opB i).after.any fun e => Region.binds .any e && e.on == j
theorem waits1_spec {i j : Nat} (hi : i < 10) (h : waits1 i j = true) {L : Array Bool} (hr : i ∈ Region.ready .any ops94 L) : L.getD j false = true := by
  obtain ⟨_, o, ho, hall⟩ := mem_ready.1 hr
  rw [opsB_get hi] at ho
  cases ho
  obtain ⟨e, he, h1⟩ := Array.any_eq_true'.1 h
  simp only [Bool.and_eq_true, beq_iff_eq] at h1
  rw [← h1.2]; exact hall e he h1.1

abbrev u32v (l : List Int) : Array Value := (cvs (.int .u32) l).toArray
theorem u32v_size (l : List Int) : (u32v l).size = l.length := by simp [u32v, cvs_length, EK.w]

def VLb (b : List Int) (s : List Int) (vb : Value) : List (Nat × Nat × Value) :=
  [(0, 16, .agg (u32v k64)), (1, 17, vb), (2, 18, .agg (u32v (wds b))), (3, 19, .agg (u32v s))]
def CLb (b : List Int) (s : List Int) : List Cel :=
  [⟨4, 7, 5, 116, u32v k64⟩, ⟨5, 8, 6, 116, u32v (wds b)⟩, ⟨6, 9, 7, 107, u32v s⟩]

abbrev hB (ro : Bool) (b s z : List Int) : Heap := [some ⟨ro, [.seq (.int .u8) 0 b]⟩, some ⟨false, [.seq (.int .u32) 8 s]⟩, some ⟨false, [.seq (.int .u32) 8 z]⟩]

/-- A store into a variable that was made. -/
theorem store_new {a : Act} {w : World} {o : Oper} {t : TypeId} {d y n : Nat} {V blk : Array Value} {b : Nat} (ho : o.op = .store t (.tmp d) (.tmp y)) (hs : ∃ i, Try.prog.info? t = some i ∧ i.size = n) (hn : V.size = n) (hbs : blk.size = n)
    (hd : a.tmps.getD d undef = .pointer (some (at_ (b, 0) 0))) (hy : a.tmps.getD y undef = .agg V) (hlf : ∀ v ∈ V.toList, leafV v) (hb : w.heap[b]? = some (.cells blk t (0, 0))) :
    ∃ w', (execOp a.eval o).run Try.prog w = .ok .skip w' ∧ OnlyB w w' b ∧ w'.heap[b]? = some (.cells V t (0, 0)) := by
  obtain ⟨i, hi, hin⟩ := hs
  obtain ⟨w', cur', q1, q2, q3, q4⟩ := run_storeCells_any (P := Try.prog) (g := b) (o := 0) (t := t) (fr := (0, 0)) V.toList 0 blk w hb (by simp; omega) hlf (fun j _ => by simp)
  have hV : cur' = V := by
    apply Array.ext'
    rw [q4]
    have : blk.toList.length = n := by simpa using hbs
    have h2 : V.toList.length = n := by simpa using hn
    simp only [Nat.zero_add, List.take_zero, List.nil_append]
    rw [List.drop_eq_nil_of_le (by omega), List.append_nil]
  subst hV
  refine ⟨w', ?_, q2, q3⟩
  have ex : a.eval (.tmp d) = .pointer (some (at_ (b, 0) 0)) := hd
  have ey : a.eval (.tmp y) = .agg cur' := hy
  have hst : (storeCells (at_ (b, 0) 0) cur'.toList).run Try.prog w = .ok () w' := q1
  simp only [execOp, ho, ex, ey, Instr.storeAt, Instr.sureAddr, storeVar, Sem.run_bind, Sem.run_pure, Result.andThen_ok, run_size hi, Value.cells, hn, hin]
  simp [hst]

theorem alloc_new {a : Act} {w : World} {o : Oper} {t : TypeId} {es : List LV} {n : Nat} (ho : o.op = .alloc t) (hz : zeroE Try.prog t = some es) (hw : wOf es = some n) :
    ∃ Z : Array Value, Z.size = n ∧ (execOp a.eval o).run Try.prog w = .ok (.value (.pointer (some (at_ (w.heap.size, 0) 0)))) (pushB w (.cells Z t)) := by
  obtain ⟨i, z, hin, hzz, hoc⟩ := zeroE_cells (m := []) hz
  refine ⟨z.cells, ?_, ?_⟩
  · have := wOf_cells hw hoc
    simpa using this
  · simp [execOp, ho, Instr.alloc, zero_run hin hzz, newVar, newRow, newObj, Sem.run, pushB, at_]

theorem wp_of_ok {a : Act} {w w' : World} {o : Oper} {v : Value} {next : Act → World → Prop} {Q : Exit → Act → World → Prop} (h : (execOp a.eval o).run Try.prog w = .ok (.value v) w') (hn : next (a.put o.dst v) w') : o.wp Try.prog a w next Q := by
  unfold Oper.wp; rw [h, Oper.upon_value]; exact hn

theorem wp_of_skip {a : Act} {w w' : World} {o : Oper} {next : Act → World → Prop} {Q : Exit → Act → World → Prop} (h : (execOp a.eval o).run Try.prog w = .ok .skip w') (hn : next (a.put o.dst undef) w') : o.wp Try.prog a w next Q := by
  unfold Oper.wp; rw [h, Oper.upon_skip]; exact hn

theorem agg_inv {m : GM} {n : Nat} {l : List Int} {v : Value} (h : ResRel m [.agg [.seq (.int .u32) n l]] v) : v = .agg (u32v l) := by
  obtain ⟨cs, rfl, x, y, hcs, ⟨_, rfl⟩, rfl⟩ := h
  have : cs = u32v l := by apply Array.ext'; rw [hcs]; simp [u32v]
  rw [this]

set_option maxRecDepth 100000 in
/-- One operation of the region. -/
theorem regB_step {F : Nat} (hF : 100 ≤ F) {G : Ctx} {m : GM} {ro : Bool} {b s z : List Int} {vb : Value} {w0 : World} {a0 : Act} (hb : 64 ≤ b.length) (hs : s.length = 8) (hi : Inv G m (hB ro b s z) w0)
    (h1 : a0.tmps.getD 1 undef = vb) (hvb : LRel m (.full 0) vb) (h2 : TVRel m (.lf (.ptr 1 0)) (a0.tmps.getD 2 undef)) (hsz : 109 ≤ a0.tmps.size) {Q : Exit → Act → World → Prop} :
    ∀ L a w i, L.size = ops94.size → PHI w0 a0 (VLb b s vb) (CLb b s) L a w → i ∈ Region.ready .any ops94 L →
      wpOp Try.prog ops94 Q i (fun a' w' => PHI w0 a0 (VLb b s vb) (CLb b s) (L.setIfInBounds i true) a' w') a w := by
  intro L a w i hL hp hr
  rw [opsB_size] at hL
  obtain ⟨hun, o, ho, hall⟩ := mem_ready.1 hr
  have hi10 : i < 10 := by rw [← opsB_size]; exact (Array.getElem?_eq_some_iff.1 ho).1
  have hunf : L.getD i false = false := by
    have : i < L.size := by omega
    simp [this] at hun ⊢; exact hun
  have hwant : ∀ y, Region.wanted (opB i) y = true := fun y => by simp [Region.wanted, gB i hi10]
  have hkeep : ∀ s', s' < 16 → s' ≠ 5 → s' ≠ 6 → s' ≠ 7 → a.tmps.getD s' undef = a0.tmps.getD s' undef := fun s' q1 q2 q3 q4 => hp.keep s' (by simp [VLb]; omega) (by simp [CLb]; omega)
  refine wpOp_of (opsB_get hi10) ?_
  rw [if_pos (hwant _)]
  have hiw := hi.ext hp.ext
  have val : ∀ p ∈ VLb b s vb, p.1 = i → (opB i).dst = some p.2.1 → ∀ w', Ext w w' → PHI w0 a0 (VLb b s vb) (CLb b s) (L.setIfInBounds i true) (a.put (opB i).dst p.2.2) w' := by
    intro p hpm hpi hpd w' e
    subst hpi
    rw [hpd]
    refine hp.value hpm (by omega) ?_ ?_ ?_ e
    · simp only [VLb, List.mem_cons, List.not_mem_nil, or_false] at hpm
      rcases hpm with rfl | rfl | rfl | rfl <;> simp only <;> omega
    · intro q hq hor
      simp only [VLb, List.mem_cons, List.not_mem_nil, or_false] at hpm hq
      rcases hpm with rfl | rfl | rfl | rfl <;> rcases hq with rfl | rfl | rfl | rfl <;> first | rfl | (simp at hor)
    · intro c hc
      simp only [VLb, List.mem_cons, List.not_mem_nil, or_false] at hpm
      simp only [CLb, List.mem_cons, List.not_mem_nil, or_false] at hc
      rcases hpm with rfl | rfl | rfl | rfl <;> rcases hc with rfl | rfl | rfl <;> simp
  have cal : ∀ c ∈ CLb b s, c.al = i → (opB i).dst = some c.dst → ∀ Z : Array Value, Z.size = c.V.size →
      PHI w0 a0 (VLb b s vb) (CLb b s) (L.setIfInBounds i true) (a.put (opB i).dst (.pointer (some (at_ (w.heap.size, 0) 0)))) (pushB w (.cells Z c.t)) := by
    intro c hc hci hcd Z hZ
    subst hci
    rw [hcd]
    refine hp.alloc hc (by omega) hunf ?_ ?_ ?_ hZ
    · simp only [CLb, List.mem_cons, List.not_mem_nil, or_false] at hc
      rcases hc with rfl | rfl | rfl <;> simp only <;> omega
    · intro q hq
      simp only [VLb, List.mem_cons, List.not_mem_nil, or_false] at hq
      simp only [CLb, List.mem_cons, List.not_mem_nil, or_false] at hc
      rcases hc with rfl | rfl | rfl <;> rcases hq with rfl | rfl | rfl | rfl <;> simp
    · intro d hd
      simp only [CLb, List.mem_cons, List.not_mem_nil, or_false] at hc hd
      rcases hc with rfl | rfl | rfl <;> rcases hd with rfl | rfl | rfl <;> simp
  have cst : ∀ c ∈ CLb b s, ∀ y n, c.st = i → waits1 i c.al = true → (opB i).dst = none → (opB i).op = .store c.t (.tmp c.dst) (.tmp y) → c.V.size = n → (∃ i, Try.prog.info? c.t = some i ∧ i.size = n) →
      a.tmps.getD y undef = .agg c.V → (∀ v ∈ c.V.toList, leafV v) → (opB i).wp Try.prog a w (fun a' w' => PHI w0 a0 (VLb b s vb) (CLb b s) (L.setIfInBounds i true) a' w') Q := by
    intro c hc y n hci hwt hdn hop hVn hin hy hlf
    subst hci
    have hal := waits1_spec hi10 hwt hr
    obtain ⟨bb, q1, q2, blk, q3, q4, q5⟩ := hp.cells c hc hal
    obtain ⟨w', r1, r2, r3⟩ := store_new (a := a) (w := w) (o := opB c.st) hop hin hVn (q4.trans hVn) q1 hy hlf q3
    refine wp_of_skip r1 ?_
    rw [hdn]
    refine hp.store hc (by omega) hal ?_ ?_ q1 r2 r3
    · intro q hq
      simp only [VLb, List.mem_cons, List.not_mem_nil, or_false] at hq
      simp only [CLb, List.mem_cons, List.not_mem_nil, or_false] at hc
      rcases hc with rfl | rfl | rfl <;> rcases hq with rfl | rfl | rfl | rfl <;> simp
    · intro d hd
      simp only [CLb, List.mem_cons, List.not_mem_nil, or_false] at hc hd
      rcases hc with rfl | rfl | rfl <;> rcases hd with rfl | rfl | rfl <;> simp
  have lf : ∀ l : List Int, ∀ v ∈ (u32v l).toList, leafV v := fun l v hv => by
    simp only [u32v] at hv; exact cvs_leaf _ _ v hv
  match i, hi10 with
  | 0, _ =>
    have hop : (opB 0).op = .call ⟨.value (.func 102), #[], #[]⟩ := by kernel_rfl
    have hc := calls_of_summ (S102_1_ok F noS (noS_sound enter102)) (vs := []) (rs := [.agg [.seq (.int .u32) 64 k64]]) (h := []) (by kernel_rfl) (m := []) (w := w) (cvs := []) (inv_nil w _) trivial
    have hrun : (execOp a.eval (opB 0)).run Try.prog w = .ok (.enter 102 #[]) w := by
      have hfv : a.eval (.func 102) = .func (.func 102) #[] #[] := rfl
      simp only [execOp, hop, resolve, hfv, Deferred.ofValue, Sem.run_bind, Sem.run_pure, Result.andThen_ok, invoke, Array.empty_append, Array.append_empty, Array.map_empty, enter102]
    unfold Oper.wp
    rw [hrun, Oper.upon_enter]
    refine hc.mono ?_
    rintro e w' ⟨v, t, rfl, hr2, hext⟩
    have := agg_inv hr2
    subst this
    exact val (0, 16, .agg (u32v k64)) (by simp [VLb]) rfl (by kernel_rfl) w' hext
  | 1, _ =>
    clear cal cst
    have hop : (opB 1).op = .move (.tmp 1) := by kernel_rfl
    have hv : a.eval (.tmp 1) = vb := (hkeep 1 (by omega) (by omega) (by omega) (by omega)).trans h1
    refine wp_of_ok (v := vb) (w' := w) (by simp only [execOp, hop, Sem.run_pure, hv]) ?_
    exact val (1, 17, vb) (by simp [VLb]) rfl (by kernel_rfl) w (Ext.refl w)
  | 2, _ =>
    have hop : (opB 2).op = .call ⟨.value (.func 103), #[.tmp 17], #[74]⟩ := by kernel_rfl
    have hl1 := waits1_spec (i := 2) (j := 1) (by omega) (by kernel_rfl) hr
    have h17 : a.tmps.getD 17 undef = vb := hp.vals (1, 17, vb) (by simp [VLb]) hl1
    obtain ⟨g, hg, hsl⟩ := hvb
    have hob : hget (hB ro b s z) 0 = some ⟨ro, [.seq (.int .u8) 0 b]⟩ := rfl
    have hone : Inv ⟨w, fun _ => False⟩ [g] [some ⟨true, [.seq (.int .u8) 0 b]⟩] w := by
      refine ⟨rfl, fun id ob g' q1 q2 => ?_, fun id ob g' c q1 q2 q3 => ?_, fun i j oi oj gi gj b c hne q1 q2 q3 q4 => ?_, Str.refl w, Nat.le_refl _, fun _ _ _ => rfl⟩
      · match id, q1, q2 with
        | 0, q1, q2 =>
          cases q1; cases q2
          obtain ⟨u1, cs, u2, u3⟩ := hiw.obs 0 _ g hob hg
          refine ⟨u1, cs, ?_, ?_⟩
          · obtain ⟨x, y, rfl, hx, hy⟩ := u2
            exact ⟨x, y, rfl, hx, hy⟩
          · rcases u3 with u3 | ⟨c, blk, t, fr, v1, v2, v3, v4, v5, v6⟩
            · exact .inl u3
            · exact .inr ⟨c, blk, t, fr, v1, v2, v3, v4, v5, fun h => by cases h⟩
        | _ + 1, q1, _ => simp [hget] at q1
      · match id, q1, q2 with
        | 0, q1, q2 =>
          cases q1; cases q2
          exact ⟨fun h => h, hiw.block_lt hob hg q3⟩
        | _ + 1, q1, _ => simp [hget] at q1
      · match i, j, q1, q2 with
        | 0, 0, _, _ => exact (hne rfl).elim
        | 0, _ + 1, _, q2 => simp [hget] at q2
        | _ + 1, _, q1, _ => simp [hget] at q1
    have hx : TVs [g] [.lf (.full 0)] [vb] := by
      refine ⟨⟨g, rfl, ?_⟩, trivial⟩
      obtain ⟨g', A, c, u1, u2⟩ := hsl
      rw [hg] at u1; cases u1
      exact ⟨g, A, c, rfl, u2⟩
    have hF' : f103_1 F b (fun l => (some ([TV.agg [LV.seq (.int .u32) 64 l]], []) : Option Res)) = some ([TV.agg [LV.seq (.int .u32) 64 (wds b)]], []) := spreadP hF hb
    have hS : S103_1 F noS [.lf (.full 0)] [some ⟨true, [.seq (.int .u8) 0 b]⟩] (fun rs _ => some (rs, [])) = some ([.agg [.seq (.int .u32) 64 (wds b)]], []) := Eq.trans (by kernel_rfl) hF'
    have hc := calls_of_summ (S103_1_ok F noS (noS_sound enter103)) hS hone hx
    have hrun : (execOp a.eval (opB 2)).run Try.prog w = .ok (.enter 103 #[vb]) w := by
      have hfv : a.eval (.func 103) = .func (.func 103) #[] #[] := rfl
      have hav : a.eval (.tmp 17) = vb := h17
      simp only [execOp, hop, resolve, hfv, Deferred.ofValue, Sem.run_bind, Sem.run_pure, Result.andThen_ok, invoke, Array.empty_append, Array.append_empty, List.map_toArray, List.map_cons, List.map_nil, hav, enter103]
    unfold Oper.wp
    rw [hrun, Oper.upon_enter]
    refine hc.mono ?_
    rintro e w' ⟨v, t, rfl, hr2, hext⟩
    have := agg_inv hr2
    subst this
    exact val (2, 18, .agg (u32v (wds b))) (by simp [VLb]) rfl (by kernel_rfl) w' hext
  | 3, _ =>
    have hop : (opB 3).op = .load 107 (.tmp 2) := by kernel_rfl
    have he : ERel m (mkEnv 109 [2] [.tv (.lf (.ptr 1 0))]) a := mkEnv_rel (by rw [hp.len]; exact hsz) hp.dfr [2] _ ⟨.inr (by
      rw [hkeep 2 (by omega) (by omega) (by omega) (by omega)]; exact h2), trivial⟩
    obtain ⟨av, v, q1, q2, q3⟩ := evPure_sound (P := Try.prog) (o := opB 3) (K := fun av => match av with | .tv v => some ([v], []) | _ => none) (r := ([.agg [.seq (.int .u32) 8 s]], [])) hiw he (by kernel_rfl)
    have hav : av = .tv (.agg [.seq (.int .u32) 8 s]) := by
      cases av with
      | tv v => simp only [Option.some.injEq, Prod.mk.injEq, List.cons.injEq, and_true] at q1; rw [q1]
      | tup l => cases q1
    subst hav
    obtain ⟨cs, rfl, x, y, hcs, ⟨_, rfl⟩, rfl⟩ := q2
    have : cs = u32v s := by apply Array.ext'; rw [hcs]; simp [u32v]
    subst this
    refine wp_of_ok (q3 w (Ext.refl w)) ?_
    exact val (3, 19, .agg (u32v s)) (by simp [VLb]) rfl (by kernel_rfl) w (Ext.refl w)
  | 4, _ =>
    have hop : (opB 4).op = .alloc 116 := by kernel_rfl
    obtain ⟨Z, hZ, hrun⟩ := alloc_new (a := a) (w := w) hop (show zeroE Try.prog 116 = some [.seq (.int .u32) 64 (List.replicate 64 0)] by kernel_rfl) (n := 64) (by kernel_rfl)
    exact wp_of_ok hrun (cal ⟨4, 7, 5, 116, u32v k64⟩ (by simp [CLb]) rfl (by kernel_rfl) Z (by rw [hZ, u32v_size]; rfl))
  | 5, _ =>
    have hop : (opB 5).op = .alloc 116 := by kernel_rfl
    obtain ⟨Z, hZ, hrun⟩ := alloc_new (a := a) (w := w) hop (show zeroE Try.prog 116 = some [.seq (.int .u32) 64 (List.replicate 64 0)] by kernel_rfl) (n := 64) (by kernel_rfl)
    exact wp_of_ok hrun (cal ⟨5, 8, 6, 116, u32v (wds b)⟩ (by simp [CLb]) rfl (by kernel_rfl) Z (by rw [hZ, u32v_size, wds_len]))
  | 6, _ =>
    have hop : (opB 6).op = .alloc 107 := by kernel_rfl
    obtain ⟨Z, hZ, hrun⟩ := alloc_new (a := a) (w := w) hop (show zeroE Try.prog 107 = some [.seq (.int .u32) 8 (List.replicate 8 0)] by kernel_rfl) (n := 8) (by kernel_rfl)
    exact wp_of_ok hrun (cal ⟨6, 9, 7, 107, u32v s⟩ (by simp [CLb]) rfl (by kernel_rfl) Z (by rw [hZ, u32v_size, hs]))
  | 7, _ =>
    have hl := waits1_spec (i := 7) (j := 0) (by omega) (by kernel_rfl) hr
    exact cst ⟨4, 7, 5, 116, u32v k64⟩ (by simp [CLb]) 16 64 rfl (by kernel_rfl) (by kernel_rfl) (by kernel_rfl) (by rw [u32v_size]; rfl) ⟨(Try.prog.info? 116).getD default, by kernel_rfl, by kernel_rfl⟩
      (hp.vals (0, 16, .agg (u32v k64)) (by simp [VLb]) hl) (lf _)
  | 8, _ =>
    have hl := waits1_spec (i := 8) (j := 2) (by omega) (by kernel_rfl) hr
    exact cst ⟨5, 8, 6, 116, u32v (wds b)⟩ (by simp [CLb]) 18 64 rfl (by kernel_rfl) (by kernel_rfl) (by kernel_rfl) (by rw [u32v_size, wds_len]) ⟨(Try.prog.info? 116).getD default, by kernel_rfl, by kernel_rfl⟩
      (hp.vals (2, 18, .agg (u32v (wds b))) (by simp [VLb]) hl) (lf _)
  | 9, _ =>
    have hl := waits1_spec (i := 9) (j := 3) (by omega) (by kernel_rfl) hr
    exact cst ⟨6, 9, 7, 107, u32v s⟩ (by simp [CLb]) 19 8 rfl (by kernel_rfl) (by kernel_rfl) (by kernel_rfl) (by rw [u32v_size, hs]) ⟨(Try.prog.info? 107).getD default, by kernel_rfl, by kernel_rfl⟩
      (hp.vals (3, 19, .agg (u32v s)) (by simp [VLb]) hl) (lf _)

theorem pt_inj {x b : Nat} (h : (Value.pointer (some (at_ (x, 0) 0))) = .pointer (some (at_ (b, 0) 0))) : x = b := by
  injection h with h; injection h with h; simp only [at_, Addr.mk.injEq] at h; exact h.1

/-- One more object, whose block is no other one's. -/
theorem add_block {G : Ctx} {m : GM} {h : Heap} {w w0 : World} (hi : Inv G m h w) (hw : G.w0.heap.size ≤ w0.heap.size) {es : List LV} {V : Array Value} {t : TypeId} {nb : Nat} (hnb : w0.heap.size ≤ nb) (hg : w.heap[nb]? = some (.cells V t (0, 0)))
    (ho : OCells m es V.toList) (hd : ∀ (j : Nat) oj gj c, hget h j = some oj → oj.ro = false → m[j]? = some gj → gj.addr = some c → c.1 ≠ nb) :
    Inv G (m ++ [ghOf (some (nb, 0)) V.size es]) (h ++ [some ⟨false, es⟩]) w := by
  refine hi.add ⟨ghOf_seq _ _ _, V.toList, ho.mono (pre_append m _), .inr ⟨_, V, t, (0, 0), rfl, hg, rfl, by simp [ghOf], fun j hj => by simp, fun _ => .inl rfl⟩⟩ (fun b hb => ?_) (fun _ b hb j oj gj c hj hro hgj hc => ?_)
  · cases hb; exact .inr (Nat.le_trans hw hnb)
  · cases hb; exact hd j oj gj c hj hro hgj hc

set_option maxRecDepth 100000 in
/-- The region, whatever order is picked. -/
theorem regB_wp {F : Nat} (hF : 100 ≤ F) {G : Ctx} {m : GM} {ro : Bool} {b s z : List Int} {w : World} {a : Act} (hb : 64 ≤ b.length) (hs : s.length = 8) (hi : Inv G m (hB ro b s z) w)
    (hvb : LRel m (.full 0) (a.tmps.getD 1 undef)) (h2 : TVRel m (.lf (.ptr 1 0)) (a.tmps.getD 2 undef)) (h4 : TVRel m (.lf (.ptr 2 0)) (a.tmps.getD 4 undef)) (hsz : 109 ≤ a.tmps.size) (hdf : a.defers = []) {id : Nat}
    {Q : Exit → Act → World → Prop}
    (hq : ∀ m' a' w', Inv G m' (hB ro b s z ++ [some ⟨false, [.seq (.int .u32) 64 k64]⟩] ++ [some ⟨false, [.seq (.int .u32) 64 (wds b)]⟩] ++ [some ⟨false, [.seq (.int .u32) 8 s]⟩]) w' → Pre m m' →
      SlotsRel m' a' [2, 4, 5, 6, 7] [.tv (.lf (.ptr 1 0)), .tv (.lf (.ptr 2 0)), .tv (.lf (.ptr 3 0)), .tv (.lf (.ptr 4 0)), .tv (.lf (.ptr 5 0))] → 109 ≤ a'.tmps.size → a'.defers = [] → Q .normal a' w') :
    (Code.region id ops94 true).wp Try.prog Q a w := by
  refine wp_region_any (by kernel_rfl) ?_
  have hi' := hi.ext (Ext.drew w)
  refine wpAny_inv (PHI { w with drawn := w.drawn + 1 } a (VLb b s (a.tmps.getD 1 undef)) (CLb b s)) opsB_back (regB_step hF hb hs hi' rfl hvb h2 hsz) ?_ _ _ _ _ (by simp) (by rw [unl_none _ _ (Nat.le_refl _)]; exact Nat.le_refl _) ?_
  · intro L a' w' hL hp hall
    rw [opsB_size] at hL hall
    have hLt : ∀ j, j < 10 → L.getD j false = true := fun j hj => by
      have := hall j hj
      have hj2 : j < L.size := by omega
      simp [hj2] at this ⊢; exact this
    have hm3 : m.length = 3 := hi.len
    have hiw := hi'.ext hp.ext
    obtain ⟨b5, p5, n5, blk5, c5, z5, v5⟩ := hp.cells ⟨4, 7, 5, 116, u32v k64⟩ (by simp [CLb]) (hLt 4 (by omega))
    obtain ⟨b6, p6, n6, blk6, c6, z6, v6⟩ := hp.cells ⟨5, 8, 6, 116, u32v (wds b)⟩ (by simp [CLb]) (hLt 5 (by omega))
    obtain ⟨b7, p7, n7, blk7, c7, z7, v7⟩ := hp.cells ⟨6, 9, 7, 107, u32v s⟩ (by simp [CLb]) (hLt 6 (by omega))
    have q56 := hp.dist ⟨4, 7, 5, 116, u32v k64⟩ (by simp [CLb]) ⟨5, 8, 6, 116, u32v (wds b)⟩ (by simp [CLb]) (by simp) (hLt 4 (by omega)) (hLt 5 (by omega)) b5 b6 p5 p6
    have q57 := hp.dist ⟨4, 7, 5, 116, u32v k64⟩ (by simp [CLb]) ⟨6, 9, 7, 107, u32v s⟩ (by simp [CLb]) (by simp) (hLt 4 (by omega)) (hLt 6 (by omega)) b5 b7 p5 p7
    have q67 := hp.dist ⟨5, 8, 6, 116, u32v (wds b)⟩ (by simp [CLb]) ⟨6, 9, 7, 107, u32v s⟩ (by simp [CLb]) (by simp) (hLt 5 (by omega)) (hLt 6 (by omega)) b6 b7 p6 p7
    rw [v5 (hLt 7 (by omega))] at c5
    rw [v6 (hLt 8 (by omega))] at c6
    rw [v7 (hLt 9 (by omega))] at c7
    have hG : G.w0.heap.size ≤ ({ w with drawn := w.drawn + 1 } : World).heap.size := hi'.size
    have old : ∀ (j : Nat) oj gj c, hget (hB ro b s z) j = some oj → m[j]? = some gj → gj.addr = some c → c.1 < ({ w with drawn := w.drawn + 1 } : World).heap.size := fun j oj gj c q1 q2 q3 => hi'.block_lt q1 q2 q3
    have oc : ∀ (m : GM) (k : Nat) (l : List Int), (k = 0 ∨ l.length = k) → OCells m [.seq (.int .u32) k l] (u32v l).toList := fun m k l hk => ⟨cvs (.int .u32) l, [], by simp, ⟨hk, rfl⟩, rfl⟩
    have i1 := add_block hiw hG n5 c5 (oc m 64 k64 (.inr rfl)) (fun j oj gj c q1 q2 q3 q4 => Nat.ne_of_lt (Nat.lt_of_lt_of_le (old j oj gj c q1 q3 q4) n5))
    have i2 := add_block i1 hG n6 c6 (oc _ 64 (wds b) (.inr (wds_len b))) (fun j oj gj c q1 q2 q3 q4 => by
      rcases hget_app q1 with ⟨hj, q1⟩ | ⟨hj, _⟩
      · exact Nat.ne_of_lt (Nat.lt_of_lt_of_le (old j oj gj c q1 (gm_app_old (by rw [hm3]; exact hj) q3) q4) n6)
      · subst hj
        have : (m ++ [ghOf (some (b5, 0)) (u32v k64).size [.seq (.int .u32) 64 k64]])[(hB ro b s z).length]? = some (ghOf (some (b5, 0)) (u32v k64).size [.seq (.int .u32) 64 k64]) := by
          rw [show (hB ro b s z).length = m.length from hm3.symm]; exact gm_app_new
        rw [this] at q3; cases q3; cases q4; exact q56)
    have i3 := add_block i2 hG n7 c7 (oc _ 8 s (.inr hs)) (fun j oj gj c q1 q2 q3 q4 => by
      rcases hget_app q1 with ⟨hj, q1⟩ | ⟨hj, _⟩
      · have q3 := gm_app_old (by rw [List.length_append, hm3]; exact hj) q3
        rcases hget_app q1 with ⟨hj, q1⟩ | ⟨hj, _⟩
        · exact Nat.ne_of_lt (Nat.lt_of_lt_of_le (old j oj gj c q1 (gm_app_old (by rw [hm3]; exact hj) q3) q4) n7)
        · subst hj
          have : (m ++ [ghOf (some (b5, 0)) (u32v k64).size [.seq (.int .u32) 64 k64]])[(hB ro b s z).length]? = some (ghOf (some (b5, 0)) (u32v k64).size [.seq (.int .u32) 64 k64]) := by
            rw [show (hB ro b s z).length = m.length from hm3.symm]; exact gm_app_new
          rw [this] at q3; cases q3; cases q4; exact q57
      · subst hj
        have : ((m ++ [ghOf (some (b5, 0)) (u32v k64).size [.seq (.int .u32) 64 k64]]) ++ [ghOf (some (b6, 0)) (u32v (wds b)).size [.seq (.int .u32) 64 (wds b)]])[(hB ro b s z ++ [some (⟨false, [.seq (.int .u32) 64 k64]⟩ : Ob)]).length]? = some (ghOf (some (b6, 0)) (u32v (wds b)).size [.seq (.int .u32) 64 (wds b)]) := by
          rw [show (hB ro b s z ++ [some (⟨false, [.seq (.int .u32) 64 k64]⟩ : Ob)]).length = (m ++ [ghOf (some (b5, 0)) (u32v k64).size [.seq (.int .u32) 64 k64]]).length by simp [hm3, hB]]; exact gm_app_new
        rw [this] at q3; cases q3; cases q4; exact q67)
    have k2 : a'.tmps.getD 2 undef = a.tmps.getD 2 undef := hp.keep 2 (by simp [VLb]) (by simp [CLb])
    have k4 : a'.tmps.getD 4 undef = a.tmps.getD 4 undef := hp.keep 4 (by simp [VLb]) (by simp [CLb])
    refine hq _ a' w' i3 (((pre_append _ _).trans (pre_append _ _)).trans (pre_append _ _)) ?_ (by rw [hp.len]; exact hsz) hp.dfr
    refine ⟨.inr ?_, .inr ?_, .inr ?_, .inr ?_, .inr ?_, trivial⟩
    · rw [k2]; exact TVRel.mono (((pre_append _ _).trans (pre_append _ _)).trans (pre_append _ _)) h2
    · rw [k4]; exact TVRel.mono (((pre_append _ _).trans (pre_append _ _)).trans (pre_append _ _)) h4
    · exact ⟨_, _, by rw [List.append_assoc, List.append_assoc, List.getElem?_append_right (by omega), hm3]; rfl, rfl, p5⟩
    · exact ⟨_, _, by rw [List.append_assoc, List.append_assoc, List.getElem?_append_right (by omega), hm3]; rfl, rfl, p6⟩
    · exact ⟨_, _, by rw [List.append_assoc, List.append_assoc, List.getElem?_append_right (by omega), hm3]; rfl, rfl, p7⟩
  · have hnone : ∀ j, (Array.replicate ops94.size false).getD j false = false := fun j => by
      simp only [Array.getD_eq_getD_getElem?, Array.getElem?_replicate]; split <;> rfl
    refine ⟨Ext.refl _, hdf, rfl, fun _ _ _ => rfl, fun p _ hl => ?_, fun c _ hl => ?_, fun c _ hl => ?_, fun c _ d _ _ hl => ?_⟩ <;> (rw [hnone] at hl; cases hl)


/-- A block behind the numbers: as the code reckons it. -/
noncomputable def f94_1 {β : Type} (F : Nat) (a1 : List Int) (a2 : List Int) (K0 : List Int → Option β) : Option β :=
  cond (decide (100 ≤ F ∧ 64 ≤ a2.length)) (f94_0 F a2 a1 [0, 0, 0, 0, 0, 0, 0, 0] k64 (wds a2) a1 K0) none
def sh94_1 : Sh := ⟨[.agg [.seq (.int .u32) 8], .lf (.full 0)], [some ⟨none, [.seq (.int .u8) 0]⟩]⟩
noncomputable def S94_1 (F : Nat) (o : Summ) : Summ := mkS sh94_1 (fun d K => f94_1 F d.1.1.1 d.2.1.2.1 (fun (y0 : List Int) => K [.agg [.seq (.int .u32) 8 y0]] [some ⟨d.2.1.1, [.seq (.int .u8) 0 d.2.1.2.1]⟩])) o

noncomputable def ops0B : Array Oper := match cL code94 with | .region _ ops _ => ops | _ => #[]
theorem codeB : code94 = .seq (.region 0 ops0B false) (.seq (.region 1 ops94 true) rest94) := by kernel_rfl

def envB (s : List Int) : Env := eset (eset (argEnv 109 [.agg [.seq (.int .u32) 8 s], .lf (.full 0)]) 2 (.tv (.lf (.ptr 1 0)))) 4 (.tv (.lf (.ptr 2 0)))

set_option maxRecDepth 100000 in
theorem reg0B (F : Nat) (ro : Bool) (b s : List Int) (K0 : Env → Heap → Option Res) :
    evOps Try.prog (T94_0 F) ops0B.toList ops0B.toList (argEnv 109 [.agg [.seq (.int .u32) 8 s], .lf (.full 0)]) [some ⟨ro, [.seq (.int .u8) 0 b]⟩] K0 = K0 (envB s) (hB ro b s [0, 0, 0, 0, 0, 0, 0, 0]) := by kernel_rfl

theorem ntB : Try.f94.ntmps = 109 := by kernel_rfl
theorem scB : scopesOf rest94 = [] := by kernel_rfl

set_option maxRecDepth 100000 in
theorem blkB {F : Nat} (hF : 100 ≤ F) {ro : Bool} {b s : List Int} (hb : 64 ≤ b.length) {K : KF} {r : Res}
    (he : f94_0 F b s [0, 0, 0, 0, 0, 0, 0, 0] k64 (wds b) s (fun (y0 : List Int) => K [.agg [.seq (.int .u32) 8 y0]] [some ⟨ro, [.seq (.int .u8) 0 b]⟩]) = some r) :
    Contract Try.prog 94 [.agg [.seq (.int .u32) 8 s], .lf (.full 0)] [some ⟨ro, [.seq (.int .u8) 0 b]⟩] K r := by
  intro G m w cvs hw hi hx
  have hT := tabled94 F
  have hm : Try.prog.follows .mixedOrders = true := by kernel_rfl
  obtain ⟨hs, hv1⟩ : s.length = 8 ∧ True := by
    match cvs, hx with
    | v :: _, ⟨⟨cs, _, x, y, _, ⟨hl, _⟩, _⟩, _⟩ => exact ⟨hl.resolve_left (by omega), trivial⟩
  have hlm : m.length = 1 := hi.len
  refine calls_of_wp (fn := Try.f94) (c := code94) (by kernel_rfl) (by kernel_rfl) ?_
  rw [codeB]
  have he0 : ERel m (argEnv 109 [.agg [.seq (.int .u32) 8 s], .lf (.full 0)]) { tmps := cvs.toArray ++ Array.replicate (109 - cvs.toArray.size) undef, defers := [] } := argEnv_rel hx
  rw [ntB]
  refine wp_seq (wp_region_list (evOps_wp hT ops0B.toList (r := ([], [])) (K := fun env' h' => @ite _ (env' = envB s ∧ h' = hB ro b s [0, 0, 0, 0, 0, 0, 0, 0]) (Classical.propDecidable _) (some ([], [])) none) hi he0 (by rw [reg0B, if_pos ⟨rfl, rfl⟩]) ?_))
  intro env1 h1 m1 a1 w1 hk1 hi1 hp1 he1
  obtain ⟨rfl, rfl⟩ : env1 = envB s ∧ h1 = hB ro b s [0, 0, 0, 0, 0, 0, 0, 0] := by
    by_cases hq : env1 = envB s ∧ h1 = hB ro b s [0, 0, 0, 0, 0, 0, 0, 0]
    · exact hq
    · rw [if_neg hq] at hk1; cases hk1
  have g1 : LRel m1 (.full 0) (a1.tmps.getD 1 undef) := by
    rcases he1.val 1 with h0 | h0
    · exact h0.elim
    · exact h0
  have g2 : TVRel m1 (.lf (.ptr 1 0)) (a1.tmps.getD 2 undef) := by
    rcases he1.val 2 with h0 | h0
    · exact h0.elim
    · exact h0
  have g4 : TVRel m1 (.lf (.ptr 2 0)) (a1.tmps.getD 4 undef) := by
    rcases he1.val 4 with h0 | h0
    · exact h0.elim
    · exact h0
  refine wp_seq (regB_wp hF hb hs hi1 g1 g2 g4 he1.len he1.dfr ?_)
  intro m2 a2 w2 hi2 hp2 hsl hsz2 hdf2
  have hpre2 : Pre m m2 := hp1.trans hp2
  have hlm2 : 1 ≤ m2.length := by rw [hi2.len]; simp [hB]
  generalize wds b = W at he hi2
  generalize k64 = KK at he hi2
  have hheap : (hB ro b s [0, 0, 0, 0, 0, 0, 0, 0] ++ [some (⟨false, [.seq (.int .u32) 64 KK]⟩ : Ob)] ++ [some ⟨false, [.seq (.int .u32) 64 W]⟩] ++ [some ⟨false, [.seq (.int .u32) 8 s]⟩]) =
    encH sh94_0.h ((ro, b, ()), ((), s, ()), ((), [0, 0, 0, 0, 0, 0, 0, 0], ()), ((), KK, ()), ((), W, ()), ((), s, ()), ()) := by kernel_rfl
  rw [hheap] at hi2
  have hev := (E94_0 F ((), ((ro, b, ()), ((), s, ()), ((), [0, 0, 0, 0, 0, 0, 0, 0], ()), ((), KK, ()), ((), W, ()), ((), s, ()), ())) K).trans he
  have hl : LoopsOK Try.prog (T94_0 F) 109 1 (LT94_0 F) (loopsOf rest94) := by
    have := looped94 F
    rw [codeB] at this
    exact this
  refine evC_wp hm hT rest94 hl (by rw [scB]; exact scopesOK_nil) hlm2 hi2 (mkEnv_rel hsz2 hdf2 _ _ hsl) hev ?_
  intro e env' h' m' a' w' hK hi' hp he'
  have hpin : Pin 1 m m' := (Pin.of_pre (by omega) hpre2).trans hp
  have fin : ∀ {q : Option (List TV)}, resVals Try.prog env' h' Try.f94.results.toList = q → (match q with | some vs => normF 1 vs h' K | none => none) = some r →
      a'.defers = [] ∧ ∃ v, (results Try.f94 a'.tmps).run Try.prog w' = .ok v w' ∧ ∃ rs h', K rs h' = some r ∧ ∃ v' t, Ending.returned v = .returned v' ∧ ResRel (m ++ t) rs v' ∧ Inv G (m ++ t) h' w' := by
    intro q hq hk
    cases q with
    | none => cases hk
    | some vs1 =>
      obtain ⟨xs1, h1, h2⟩ := results_of (fn := Try.f94) hi' he' hq
      simp only [normF_eq] at hk
      obtain ⟨rs, h3, m3, q1, q2, q3, q4, q5⟩ := normVs_sound hi' hpin.1 h1 hk
      have hpre : m3 = m ++ m3.drop 1 := by
        apply List.ext_getElem?
        intro i
        by_cases hlt : i < 1
        · rw [List.getElem?_append_left (by omega), q5 i hlt, hpin.2 i hlt]
        · rw [List.getElem?_append_right (by omega), List.getElem?_drop, hlm]
          congr 1; omega
      refine ⟨he'.dfr, _, h2, rs, h3, q1, _, m3.drop 1, rfl, ?_, ?_⟩
      · rw [← hpre]; exact resRel_of q3
      · rw [← hpre]; exact q2
  cases e with
  | normal => exact fin rfl hK
  | ret => exact fin rfl hK
  | exit i => cases hK
  | goto i => cases hK


theorem S94_1_ok (F : Nat) (o : Summ) (ho : SoundFn Try.prog 94 o) : SoundFn Try.prog 94 (S94_1 F o) := by
  refine ⟨ho.enter, fun vs h K r he => ?_⟩
  unfold S94_1 mkS at he
  split at he
  rotate_left
  · exact ho.ok vs h K r he
  rename_i dv dh ha hb'
  have e1 := decT_enc _ _ _ ha
  have e2 := decH_enc _ _ _ hb'
  obtain ⟨⟨s, _⟩, _, _⟩ := dv
  obtain ⟨⟨ro, b, _⟩, _⟩ := dh
  have e1 : vs = [.agg [.seq (.int .u32) 8 s], .lf (.full 0)] := e1
  have e2 : h = [some ⟨ro, [.seq (.int .u8) 0 b]⟩] := e2
  subst e1
  subst e2
  have he : f94_1 F s b (fun (y0 : List Int) => K [.agg [.seq (.int .u32) 8 y0]] [some ⟨ro, [.seq (.int .u8) 0 b]⟩]) = some r := he
  unfold f94_1 at he
  obtain ⟨⟨hF, hb⟩, he⟩ := dec_of he
  exact blkB hF hb he

end Go.Proofs.Ytlokielmpdjedaa.X
