/- Merged: ShaBlk, EvF228, EvF229, EvF218, EvF197, EvF160, EvF163, EvF199, EvF219v5041, EvF198v5041, EvF87, EvF161, EvF201, EvF202, EvF200, EvF162, EvF162v1385, EvF107, EvF108, EvF108v568, EvF94, EvF109, EvF110, EvF110v568, EvF27, EvF42, EvF41, EvF160v2838, EvF107v2838, EvF109v5089, EvF27v568, EvF42v2949, EvF41v5478, EvF26, EvF54, EvF40, EvF43. -/
import Derived.Test.YtlgopekjjkdkiaaGreatDoorMNodesFreshCard4
import Derived.Test.YtlgopekjjkdkiaaGreatDoorMNodesFreshCard3
import Derived.Test.YtlgopekjjkdkiaaGreatDoorProg
import Derived.KernelRfl
section
namespace Go.Proofs.YtlgopekjjkdkiaaGreatDoor.X
open Go Go.Proofs.YtlgopekjjkdkiaaGreatDoor.Ev Go.Proofs
set_option linter.unusedVariables false
set_option linter.unusedSimpArgs false
set_option linter.unusedSectionVars false
section
variable [FZ]
def k64 : List Int := [1116352408, 1899447441, 3049323471, 3921009573, 961987163, 1508970993, 2453635748, 2870763221, 3624381080, 310598401, 607225278, 1426881987, 1925078388, 2162078206, 2614888103, 3248222580, 3835390401, 4022224774, 264347078, 604807628, 770255983, 1249150122, 1555081692, 1996064986, 2554220882, 2821834349, 2952996808, 3210313671, 3336571891, 3584528711, 113926993, 338241895, 666307205, 773529912, 1294757372, 1396182291, 1695183700, 1986661051, 2177026350, 2456956037, 2730485921, 2820302411, 3259730800, 3345764771, 3516065817, 3600352804, 4094571909, 275423344, 430227734, 506948616, 659060556, 883997877, 958139571, 1322822218, 1537002063, 1747873779, 1955562222, 2024104815, 2227730452, 2361852424, 2428436474, 2756734187, 3204031479, 3329325298]
noncomputable def ops234 : Array Oper := match cL (cR code234) with | .region _ ops _ => ops | _ => #[]
noncomputable def opB (i : Nat) : Oper := ops234.getD i default
theorem opsB_size : ops234.size = 10 := by kernel_rfl
theorem opsB_back : backB ops234 = true := by kernel_rfl
theorem opsB_get {i : Nat} (h : i < 10) : ops234[i]? = some (opB i) := by
  have : i < ops234.size := by rw [opsB_size]; exact h
  rw [Array.getElem?_eq_getElem this]
  simp [opB, this]
theorem gB0 : ((List.range 10).all fun i => (opB i).guard.isNone) = true := by kernel_rfl
theorem gB (i : Nat) (h : i < 10) : (opB i).guard = none := by
  have := List.all_eq_true.1 gB0 i (List.mem_range.2 h)
  simpa using this
noncomputable def waits1 (i j : Nat) : Bool := (opB i).after.any fun e => Region.binds .any e && e.on == j
theorem waits1_spec {i j : Nat} (hi : i < 10) (h : waits1 i j = true) {L : Array Bool} (hr : i ∈ Region.ready .any ops234 L) : L.getD j false = true := by
  obtain ⟨_, o, ho, hall⟩ := mem_ready.1 hr
  rw [opsB_get hi] at ho
  cases ho
  obtain ⟨e, he, h1⟩ := Array.any_eq_true'.1 h
  simp only [Bool.and_eq_true, beq_iff_eq] at h1
  rw [← h1.2]; exact hall e he h1.1
abbrev u32v (l : List Int) : Array Value := (cvs (.int .u32) l).toArray
theorem u32v_size (l : List Int) : (u32v l).size = l.length := by simp [u32v, cvs_length, EK.w]
def VLb (b : List Int) (s : List Int) (vb : Value) : List (Nat × Nat × Value) :=
  [(0, 16, .agg (u32v k64)), (1, 17, vb), (2, 18, .agg (u32v (wds b))), (3, 19, .agg (u32v s))]
def CLb (b : List Int) (s : List Int) : List Cel :=
  [⟨4, 7, 5, 258, u32v k64⟩, ⟨5, 8, 6, 258, u32v (wds b)⟩, ⟨6, 9, 7, 276, u32v s⟩]
abbrev hB (ro : Bool) (b s z : List Int) : Heap := [some ⟨ro, [.seq (.int .u8) 0 b]⟩, some ⟨false, [.seq (.int .u32) 8 s]⟩, some ⟨false, [.seq (.int .u32) 8 z]⟩]
theorem store_new {a : Act} {w : World} {o : Oper} {t : TypeId} {d y n : Nat} {V blk : Array Value} {b : Nat} (ho : o.op = .store t (.tmp d) (.tmp y)) (hs : ∃ i, Tryz.prog.info? t = some i ∧ i.size = n) (hn : V.size = n) (hbs : blk.size = n)
    (hd : a.tmps.getD d undef = .pointer (some (at_ (b, 0) 0))) (hy : a.tmps.getD y undef = .agg V) (hlf : ∀ v ∈ V.toList, leafV v) (hb : w.heap[b]? = some (.cells blk t (0, 0))) :
    ∃ w', (execOp a.eval o).run Tryz.prog w = .ok .skip w' ∧ OnlyB w w' b ∧ w'.heap[b]? = some (.cells V t (0, 0)) := by
  obtain ⟨i, hi, hin⟩ := hs
  obtain ⟨w', cur', q1, q2, q3, q4⟩ := run_storeCells_any (P := Tryz.prog) (g := b) (o := 0) (t := t) (fr := (0, 0)) V.toList 0 blk w hb (by simp; omega) hlf (fun j _ => by simp)
  have hV : cur' = V := by
    apply Array.ext'
    rw [q4]
    have : blk.toList.length = n := by simpa using hbs
    have h2 : V.toList.length = n := by simpa using hn
    simp only [Nat.zero_add, List.take_zero, List.nil_append]
    rw [List.drop_eq_nil_of_le (by omega), List.append_nil]
  subst hV
  refine ⟨w', ?_, q2, q3⟩
  have ex : a.eval (.tmp d) = .pointer (some (at_ (b, 0) 0)) := hd
  have ey : a.eval (.tmp y) = .agg cur' := hy
  have hst : (storeCells (at_ (b, 0) 0) cur'.toList).run Tryz.prog w = .ok () w' := q1
  simp only [execOp, ho, ex, ey, Instr.storeAt, Instr.sureAddr, storeVar, Sem.run_bind, Sem.run_pure, Result.andThen_ok, run_size hi, Value.cells, hn, hin]
  simp [hst]
theorem alloc_new {a : Act} {w : World} {o : Oper} {t : TypeId} {es : List LV} {n : Nat} (ho : o.op = .alloc t) (hz : zeroE Tryz.prog t = some es) (hw : wOf es = some n) :
    ∃ Z : Array Value, Z.size = n ∧ (execOp a.eval o).run Tryz.prog w = .ok (.value (.pointer (some (at_ (w.heap.size, 0) 0)))) (pushB w (.cells Z t)) := by
  obtain ⟨i, z, hin, hzz, hoc⟩ := zeroE_cells (m := []) hz
  refine ⟨z.cells, ?_, ?_⟩
  · have := wOf_cells hw hoc
    simpa using this
  · simp [execOp, ho, Instr.alloc, zero_run hin hzz, newVar, newRow, newObj, Sem.run, pushB, at_]
theorem wp_of_ok {a : Act} {w w' : World} {o : Oper} {v : Value} {next : Act → World → Prop} {Q : Exit → Act → World → Prop} (h : (execOp a.eval o).run Tryz.prog w = .ok (.value v) w') (hn : next (a.put o.dst v) w') : o.wp Tryz.prog a w next Q := by
  unfold Oper.wp; rw [h, Oper.upon_value]; exact hn
theorem wp_of_skip {a : Act} {w w' : World} {o : Oper} {next : Act → World → Prop} {Q : Exit → Act → World → Prop} (h : (execOp a.eval o).run Tryz.prog w = .ok .skip w') (hn : next (a.put o.dst undef) w') : o.wp Tryz.prog a w next Q := by
  unfold Oper.wp; rw [h, Oper.upon_skip]; exact hn
theorem agg_inv {m : GM} {n : Nat} {l : List Int} {v : Value} (h : ResRel m [.agg [.seq (.int .u32) n l]] v) : v = .agg (u32v l) := by
  obtain ⟨cs, rfl, x, y, hcs, ⟨_, rfl⟩, rfl⟩ := h
  have : cs = u32v l := by apply Array.ext'; rw [hcs]; simp [u32v]
  rw [this]
set_option maxRecDepth 100000 in
theorem regB_step {F : Nat} (hF : 100 ≤ F) {G : Ctx} {m : GM} {ro : Bool} {b s z : List Int} {vb : Value} {w0 : World} {a0 : Act} (hb : 64 ≤ b.length) (hs : s.length = 8) (hi : Inv G m (hB ro b s z) w0)
    (hgd : a0.defers = G.dfs) (h1 : a0.tmps.getD 1 undef = vb) (hvb : LRel m (.full 0) vb) (h2 : TVRel m (.lf (.ptr 1 0)) (a0.tmps.getD 2 undef)) (hsz : 109 ≤ a0.tmps.size) {Q : Exit → Act → World → Prop} :
    ∀ L a w i, L.size = ops234.size → PHI w0 a0 (VLb b s vb) (CLb b s) L a w → i ∈ Region.ready .any ops234 L →
      wpOp Tryz.prog ops234 Q i (fun a' w' => PHI w0 a0 (VLb b s vb) (CLb b s) (L.setIfInBounds i true) a' w') a w := by
  intro L a w i hL hp hr
  rw [opsB_size] at hL
  obtain ⟨hun, o, ho, hall⟩ := mem_ready.1 hr
  have hi10 : i < 10 := by rw [← opsB_size]; exact (Array.getElem?_eq_some_iff.1 ho).1
  have hunf : L.getD i false = false := by
    have : i < L.size := by omega
    simp [this] at hun ⊢; exact hun
  have hwant : ∀ y, Region.wanted (opB i) y = true := fun y => by simp [Region.wanted, gB i hi10]
  have hkeep : ∀ s', s' < 16 → s' ≠ 5 → s' ≠ 6 → s' ≠ 7 → a.tmps.getD s' undef = a0.tmps.getD s' undef := fun s' q1 q2 q3 q4 => hp.keep s' (by simp [VLb]; omega) (by simp [CLb]; omega)
  refine wpOp_of (opsB_get hi10) ?_
  rw [if_pos (hwant _)]
  have hiw := hi.ext hp.ext
  have hfzw : ∀ a cap cs, FZ.ok a cap cs → FzW (Ctx.of w fun _ => False) a cap cs := fun _ _ _ hf => FzW.sub hiw (hiw.fz _ _ _ hf) (fun _ hb => hb.elim)
  have val : ∀ p ∈ VLb b s vb, p.1 = i → (opB i).dst = some p.2.1 → ∀ w', Ext w w' → PHI w0 a0 (VLb b s vb) (CLb b s) (L.setIfInBounds i true) (a.put (opB i).dst p.2.2) w' := by
    intro p hpm hpi hpd w' e
    subst hpi
    rw [hpd]
    refine hp.value hpm (by omega) ?_ ?_ ?_ e
    · simp only [VLb, List.mem_cons, List.not_mem_nil, or_false] at hpm
      rcases hpm with rfl | rfl | rfl | rfl <;> simp only <;> omega
    · intro q hq hor
      simp only [VLb, List.mem_cons, List.not_mem_nil, or_false] at hpm hq
      rcases hpm with rfl | rfl | rfl | rfl <;> rcases hq with rfl | rfl | rfl | rfl <;> first | rfl | (simp at hor)
    · intro c hc
      simp only [VLb, List.mem_cons, List.not_mem_nil, or_false] at hpm
      simp only [CLb, List.mem_cons, List.not_mem_nil, or_false] at hc
      rcases hpm with rfl | rfl | rfl | rfl <;> rcases hc with rfl | rfl | rfl <;> simp
  have cal : ∀ c ∈ CLb b s, c.al = i → (opB i).dst = some c.dst → ∀ Z : Array Value, Z.size = c.V.size →
      PHI w0 a0 (VLb b s vb) (CLb b s) (L.setIfInBounds i true) (a.put (opB i).dst (.pointer (some (at_ (w.heap.size, 0) 0)))) (pushB w (.cells Z c.t)) := by
    intro c hc hci hcd Z hZ
    subst hci
    rw [hcd]
    refine hp.alloc hc (by omega) hunf ?_ ?_ ?_ hZ
    · simp only [CLb, List.mem_cons, List.not_mem_nil, or_false] at hc
      rcases hc with rfl | rfl | rfl <;> simp only <;> omega
    · intro q hq
      simp only [VLb, List.mem_cons, List.not_mem_nil, or_false] at hq
      simp only [CLb, List.mem_cons, List.not_mem_nil, or_false] at hc
      rcases hc with rfl | rfl | rfl <;> rcases hq with rfl | rfl | rfl | rfl <;> simp
    · intro d hd
      simp only [CLb, List.mem_cons, List.not_mem_nil, or_false] at hc hd
      rcases hc with rfl | rfl | rfl <;> rcases hd with rfl | rfl | rfl <;> simp
  have cst : ∀ c ∈ CLb b s, ∀ y n, c.st = i → waits1 i c.al = true → (opB i).dst = none → (opB i).op = .store c.t (.tmp c.dst) (.tmp y) → c.V.size = n → (∃ i, Tryz.prog.info? c.t = some i ∧ i.size = n) →
      a.tmps.getD y undef = .agg c.V → (∀ v ∈ c.V.toList, leafV v) → (opB i).wp Tryz.prog a w (fun a' w' => PHI w0 a0 (VLb b s vb) (CLb b s) (L.setIfInBounds i true) a' w') Q := by
    intro c hc y n hci hwt hdn hop hVn hin hy hlf
    subst hci
    have hal := waits1_spec hi10 hwt hr
    obtain ⟨bb, q1, q2, blk, q3, q4, q5⟩ := hp.cells c hc hal
    obtain ⟨w', r1, r2, r3⟩ := store_new (a := a) (w := w) (o := opB c.st) hop hin hVn (q4.trans hVn) q1 hy hlf q3
    refine wp_of_skip r1 ?_
    rw [hdn]
    refine hp.store hc (by omega) hal ?_ ?_ q1 r2 r3
    · intro q hq
      simp only [VLb, List.mem_cons, List.not_mem_nil, or_false] at hq
      simp only [CLb, List.mem_cons, List.not_mem_nil, or_false] at hc
      rcases hc with rfl | rfl | rfl <;> rcases hq with rfl | rfl | rfl | rfl <;> simp
    · intro d hd
      simp only [CLb, List.mem_cons, List.not_mem_nil, or_false] at hc hd
      rcases hc with rfl | rfl | rfl <;> rcases hd with rfl | rfl | rfl <;> simp
  have lf : ∀ l : List Int, ∀ v ∈ (u32v l).toList, leafV v := fun l v hv => by
    simp only [u32v] at hv; exact cvs_leaf _ _ v hv
  match i, hi10 with
  | 0, _ =>
    have hop : (opB 0).op = .call ⟨.value (.func 239), #[], #[]⟩ := by kernel_rfl
    have hc := calls_of_summ (S239_1_ok F noS (noS_sound enter239)) (vs := []) (rs := [.agg [.seq (.int .u32) 64 k64]]) (h := []) (by kernel_rfl) (m := []) (w := w) (cvs := []) (inv_nil hfzw) trivial
    have hrun : (execOp a.eval (opB 0)).run Tryz.prog w = .ok (.enter 239 #[]) w := by
      have hfv : a.eval (.func 239) = .func (.func 239) #[] #[] := rfl
      simp only [execOp, hop, resolve, hfv, Deferred.ofValue, Sem.run_bind, Sem.run_pure, Result.andThen_ok, invoke, Array.empty_append, Array.append_empty, Array.map_empty, enter239]
    unfold Oper.wp
    rw [hrun, Oper.upon_enter]
    refine hc.mono ?_
    rintro e w' ⟨v, t, rfl, hr2, hext⟩
    have := agg_inv hr2
    subst this
    exact val (0, 16, .agg (u32v k64)) (by simp [VLb]) rfl (by kernel_rfl) w' hext
  | 1, _ =>
    clear cal cst
    have hop : (opB 1).op = .move (.tmp 1) := by kernel_rfl
    have hv : a.eval (.tmp 1) = vb := (hkeep 1 (by omega) (by omega) (by omega) (by omega)).trans h1
    refine wp_of_ok (v := vb) (w' := w) (by simp only [execOp, hop, Sem.run_pure, hv]) ?_
    exact val (1, 17, vb) (by simp [VLb]) rfl (by kernel_rfl) w (Ext.refl w)
  | 2, _ =>
    have hop : (opB 2).op = .call ⟨.value (.func 240), #[.tmp 17], #[137]⟩ := by kernel_rfl
    have hl1 := waits1_spec (i := 2) (j := 1) (by omega) (by kernel_rfl) hr
    have h17 : a.tmps.getD 17 undef = vb := hp.vals (1, 17, vb) (by simp [VLb]) hl1
    obtain ⟨g, hg, hsl⟩ := hvb
    have hob : hget (hB ro b s z) 0 = some ⟨ro, [.seq (.int .u8) 0 b]⟩ := rfl
    have hone : Inv (Ctx.of w fun _ => False) [g] [some ⟨true, [.seq (.int .u8) 0 b]⟩] w := by
      refine ⟨rfl, fun id ob g' q1 q2 => ?_, fun id ob g' c q1 q2 q3 => ?_, fun i j oi oj gi gj b c hne q1 q2 q3 q4 => ?_, Str.refl w, Nat.le_refl _, fun _ _ _ => rfl, hfzw, fun x hx => by cases hx⟩
      · match id, q1, q2 with
        | 0, q1, q2 =>
          cases q1; cases q2
          obtain ⟨u1, cs, u2, u3⟩ := hiw.obs 0 _ g hob hg
          refine ⟨u1, cs, ?_, ?_⟩
          · obtain ⟨x, y, rfl, hx, hy⟩ := u2
            exact ⟨x, y, rfl, hx, hy⟩
          · rcases u3 with u3 | ⟨c, blk, t, fr, v1, v2, v3, v4, v5, v6⟩
            · exact .inl u3
            · exact .inr ⟨c, blk, t, fr, v1, v2, v3, v4, v5, fun h => by cases h⟩
        | _ + 1, q1, _ => simp [hget] at q1
      · match id, q1, q2 with
        | 0, q1, q2 =>
          cases q1; cases q2
          exact ⟨fun h => h, hiw.block_lt hob hg q3, trivial⟩
        | _ + 1, q1, _ => simp [hget] at q1
      · match i, j, q1, q2 with
        | 0, 0, _, _ => exact (hne rfl).elim
        | 0, _ + 1, _, q2 => simp [hget] at q2
        | _ + 1, _, q1, _ => simp [hget] at q1
    have hx : TVs [g] [.lf (.full 0)] [vb] := by
      refine ⟨⟨g, rfl, ?_⟩, trivial⟩
      obtain ⟨g', A, c, u1, u2⟩ := hsl
      rw [hg] at u1; cases u1
      exact ⟨g, A, c, rfl, u2⟩
    have hF' : f240_1 F b (fun l => (some ([TV.agg [LV.seq (.int .u32) 64 l]], []) : Option Res)) = some ([TV.agg [LV.seq (.int .u32) 64 (wds b)]], []) := spreadP hF hb
    have hS : S240_1 F noS [.lf (.full 0)] [some ⟨true, [.seq (.int .u8) 0 b]⟩] (fun rs _ => some (rs, [])) = some ([.agg [.seq (.int .u32) 64 (wds b)]], []) := Eq.trans (by kernel_rfl) hF'
    have hc := calls_of_summ (S240_1_ok F noS (noS_sound enter240)) hS hone hx
    have hrun : (execOp a.eval (opB 2)).run Tryz.prog w = .ok (.enter 240 #[vb]) w := by
      have hfv : a.eval (.func 240) = .func (.func 240) #[] #[] := rfl
      have hav : a.eval (.tmp 17) = vb := h17
      simp only [execOp, hop, resolve, hfv, Deferred.ofValue, Sem.run_bind, Sem.run_pure, Result.andThen_ok, invoke, Array.empty_append, Array.append_empty, List.map_toArray, List.map_cons, List.map_nil, hav, enter240]
    unfold Oper.wp
    rw [hrun, Oper.upon_enter]
    refine hc.mono ?_
    rintro e w' ⟨v, t, rfl, hr2, hext⟩
    have := agg_inv hr2
    subst this
    exact val (2, 18, .agg (u32v (wds b))) (by simp [VLb]) rfl (by kernel_rfl) w' hext
  | 3, _ =>
    have hop : (opB 3).op = .load 276 (.tmp 2) := by kernel_rfl
    have he : ERel G m (mkEnv 109 [2] [.tv (.lf (.ptr 1 0))]) a := mkEnv_rel (by rw [hp.len]; exact hsz) (hp.dfr.trans hgd) [2] _ ⟨.inr (by
      rw [hkeep 2 (by omega) (by omega) (by omega) (by omega)]; exact h2), trivial⟩
    obtain ⟨av, v, q1, q2, q3⟩ := evPure_sound (P := Tryz.prog) (o := opB 3) (K := fun av => match av with | .tv v => some ([v], []) | _ => none) (r := ([.agg [.seq (.int .u32) 8 s]], [])) hiw he (by kernel_rfl)
    have hav : av = .tv (.agg [.seq (.int .u32) 8 s]) := by
      cases av with
      | tv v => simp only [Option.some.injEq, Prod.mk.injEq, List.cons.injEq, and_true] at q1; rw [q1]
      | tup l => cases q1
    subst hav
    obtain ⟨cs, rfl, x, y, hcs, ⟨_, rfl⟩, rfl⟩ := q2
    have : cs = u32v s := by apply Array.ext'; rw [hcs]; simp [u32v]
    subst this
    refine wp_of_ok (q3 w (.inr (Ext.refl w))) ?_
    exact val (3, 19, .agg (u32v s)) (by simp [VLb]) rfl (by kernel_rfl) w (Ext.refl w)
  | 4, _ =>
    have hop : (opB 4).op = .alloc 258 := by kernel_rfl
    obtain ⟨Z, hZ, hrun⟩ := alloc_new (a := a) (w := w) hop (show zeroE Tryz.prog 258 = some [.seq (.int .u32) 64 (List.replicate 64 0)] by kernel_rfl) (n := 64) (by kernel_rfl)
    exact wp_of_ok hrun (cal ⟨4, 7, 5, 258, u32v k64⟩ (by simp [CLb]) rfl (by kernel_rfl) Z (by rw [hZ, u32v_size]; rfl))
  | 5, _ =>
    have hop : (opB 5).op = .alloc 258 := by kernel_rfl
    obtain ⟨Z, hZ, hrun⟩ := alloc_new (a := a) (w := w) hop (show zeroE Tryz.prog 258 = some [.seq (.int .u32) 64 (List.replicate 64 0)] by kernel_rfl) (n := 64) (by kernel_rfl)
    exact wp_of_ok hrun (cal ⟨5, 8, 6, 258, u32v (wds b)⟩ (by simp [CLb]) rfl (by kernel_rfl) Z (by rw [hZ, u32v_size, wds_len]))
  | 6, _ =>
    have hop : (opB 6).op = .alloc 276 := by kernel_rfl
    obtain ⟨Z, hZ, hrun⟩ := alloc_new (a := a) (w := w) hop (show zeroE Tryz.prog 276 = some [.seq (.int .u32) 8 (List.replicate 8 0)] by kernel_rfl) (n := 8) (by kernel_rfl)
    exact wp_of_ok hrun (cal ⟨6, 9, 7, 276, u32v s⟩ (by simp [CLb]) rfl (by kernel_rfl) Z (by rw [hZ, u32v_size, hs]))
  | 7, _ =>
    have hl := waits1_spec (i := 7) (j := 0) (by omega) (by kernel_rfl) hr
    exact cst ⟨4, 7, 5, 258, u32v k64⟩ (by simp [CLb]) 16 64 rfl (by kernel_rfl) (by kernel_rfl) (by kernel_rfl) (by rw [u32v_size]; rfl) ⟨(Tryz.prog.info? 258).getD default, by kernel_rfl, by kernel_rfl⟩
      (hp.vals (0, 16, .agg (u32v k64)) (by simp [VLb]) hl) (lf _)
  | 8, _ =>
    have hl := waits1_spec (i := 8) (j := 2) (by omega) (by kernel_rfl) hr
    exact cst ⟨5, 8, 6, 258, u32v (wds b)⟩ (by simp [CLb]) 18 64 rfl (by kernel_rfl) (by kernel_rfl) (by kernel_rfl) (by rw [u32v_size, wds_len]) ⟨(Tryz.prog.info? 258).getD default, by kernel_rfl, by kernel_rfl⟩
      (hp.vals (2, 18, .agg (u32v (wds b))) (by simp [VLb]) hl) (lf _)
  | 9, _ =>
    have hl := waits1_spec (i := 9) (j := 3) (by omega) (by kernel_rfl) hr
    exact cst ⟨6, 9, 7, 276, u32v s⟩ (by simp [CLb]) 19 8 rfl (by kernel_rfl) (by kernel_rfl) (by kernel_rfl) (by rw [u32v_size, hs]) ⟨(Tryz.prog.info? 276).getD default, by kernel_rfl, by kernel_rfl⟩
      (hp.vals (3, 19, .agg (u32v s)) (by simp [VLb]) hl) (lf _)
theorem add_block {G : Ctx} {m : GM} {h : Heap} {w w0 : World} (hi : Inv G m h w) (hw : G.w0.heap.size ≤ w0.heap.size) {es : List LV} {V : Array Value} {t : TypeId} {nb : Nat} (hnb : w0.heap.size ≤ nb) (hg : w.heap[nb]? = some (.cells V t (0, 0)))
    (ho : OCells m es V.toList) (hd : ∀ (j : Nat) oj gj c, hget h j = some oj → oj.ro = false → m[j]? = some gj → gj.addr = some c → c.1 ≠ nb) :
    Inv G (m ++ [ghOf (some (nb, 0)) V.size es]) (h ++ [some ⟨false, es⟩]) w := by
  refine hi.add ⟨ghOf_seq _ _ _, V.toList, ho.mono (pre_append m _), .inr ⟨_, V, t, (0, 0), rfl, hg, rfl, by simp [ghOf], fun j hj => by simp, fun _ => .inl rfl⟩⟩ (fun b hb => ?_) (fun _ b hb j oj gj c hj hro hgj hc => ?_)
  · cases hb; exact .inr (Nat.le_trans hw hnb)
  · cases hb; exact hd j oj gj c hj hro hgj hc
set_option maxRecDepth 100000 in
theorem regB_wp {F : Nat} (hF : 100 ≤ F) {G : Ctx} {m : GM} {ro : Bool} {b s z : List Int} {w : World} {a : Act} (hb : 64 ≤ b.length) (hs : s.length = 8) (hi : Inv G m (hB ro b s z) w)
    (hvb : LRel m (.full 0) (a.tmps.getD 1 undef)) (h2 : TVRel m (.lf (.ptr 1 0)) (a.tmps.getD 2 undef)) (h4 : TVRel m (.lf (.ptr 2 0)) (a.tmps.getD 4 undef)) (hsz : 109 ≤ a.tmps.size) (hgd : a.defers = G.dfs) {id : Nat}
    {Q : Exit → Act → World → Prop}
    (hq : ∀ m' a' w', Inv G m' (hB ro b s z ++ [some ⟨false, [.seq (.int .u32) 64 k64]⟩] ++ [some ⟨false, [.seq (.int .u32) 64 (wds b)]⟩] ++ [some ⟨false, [.seq (.int .u32) 8 s]⟩]) w' → Pre m m' →
      SlotsRel m' a' [2, 4, 5, 6, 7] [.tv (.lf (.ptr 1 0)), .tv (.lf (.ptr 2 0)), .tv (.lf (.ptr 3 0)), .tv (.lf (.ptr 4 0)), .tv (.lf (.ptr 5 0))] → 109 ≤ a'.tmps.size → a'.defers = G.dfs → Q .normal a' w') :
    (Code.region id ops234 true).wp Tryz.prog Q a w := by
  refine wp_region_any (by kernel_rfl) ?_
  have hi' := hi.ext (Ext.drew w)
  refine wpAny_inv (PHI { w with drawn := w.drawn + 1 } a (VLb b s (a.tmps.getD 1 undef)) (CLb b s)) opsB_back (regB_step hF hb hs hi' hgd rfl hvb h2 hsz) ?_ _ _ _ _ (by simp) (by rw [unl_none _ _ (Nat.le_refl _)]; exact Nat.le_refl _) ?_
  · intro L a' w' hL hp hall
    rw [opsB_size] at hL hall
    have hLt : ∀ j, j < 10 → L.getD j false = true := fun j hj => by
      have := hall j hj
      have hj2 : j < L.size := by omega
      simp [hj2] at this ⊢; exact this
    have hm3 : m.length = 3 := hi.len
    have hiw := hi'.ext hp.ext
    obtain ⟨b5, p5, n5, blk5, c5, z5, v5⟩ := hp.cells ⟨4, 7, 5, 258, u32v k64⟩ (by simp [CLb]) (hLt 4 (by omega))
    obtain ⟨b6, p6, n6, blk6, c6, z6, v6⟩ := hp.cells ⟨5, 8, 6, 258, u32v (wds b)⟩ (by simp [CLb]) (hLt 5 (by omega))
    obtain ⟨b7, p7, n7, blk7, c7, z7, v7⟩ := hp.cells ⟨6, 9, 7, 276, u32v s⟩ (by simp [CLb]) (hLt 6 (by omega))
    have q56 := hp.dist ⟨4, 7, 5, 258, u32v k64⟩ (by simp [CLb]) ⟨5, 8, 6, 258, u32v (wds b)⟩ (by simp [CLb]) (by simp) (hLt 4 (by omega)) (hLt 5 (by omega)) b5 b6 p5 p6
    have q57 := hp.dist ⟨4, 7, 5, 258, u32v k64⟩ (by simp [CLb]) ⟨6, 9, 7, 276, u32v s⟩ (by simp [CLb]) (by simp) (hLt 4 (by omega)) (hLt 6 (by omega)) b5 b7 p5 p7
    have q67 := hp.dist ⟨5, 8, 6, 258, u32v (wds b)⟩ (by simp [CLb]) ⟨6, 9, 7, 276, u32v s⟩ (by simp [CLb]) (by simp) (hLt 5 (by omega)) (hLt 6 (by omega)) b6 b7 p6 p7
    rw [v5 (hLt 7 (by omega))] at c5
    rw [v6 (hLt 8 (by omega))] at c6
    rw [v7 (hLt 9 (by omega))] at c7
    have hG : G.w0.heap.size ≤ ({ w with drawn := w.drawn + 1 } : World).heap.size := hi'.size
    have old : ∀ (j : Nat) oj gj c, hget (hB ro b s z) j = some oj → m[j]? = some gj → gj.addr = some c → c.1 < ({ w with drawn := w.drawn + 1 } : World).heap.size := fun j oj gj c q1 q2 q3 => hi'.block_lt q1 q2 q3
    have oc : ∀ (m : GM) (k : Nat) (l : List Int), (k = 0 ∨ l.length = k) → OCells m [.seq (.int .u32) k l] (u32v l).toList := fun m k l hk => ⟨cvs (.int .u32) l, [], by simp, ⟨hk, rfl⟩, rfl⟩
    have i1 := add_block hiw hG n5 c5 (oc m 64 k64 (.inr rfl)) (fun j oj gj c q1 q2 q3 q4 => Nat.ne_of_lt (Nat.lt_of_lt_of_le (old j oj gj c q1 q3 q4) n5))
    have i2 := add_block i1 hG n6 c6 (oc _ 64 (wds b) (.inr (wds_len b))) (fun j oj gj c q1 q2 q3 q4 => by
      rcases hget_app q1 with ⟨hj, q1⟩ | ⟨hj, _⟩
      · exact Nat.ne_of_lt (Nat.lt_of_lt_of_le (old j oj gj c q1 (gm_app_old (by rw [hm3]; exact hj) q3) q4) n6)
      · subst hj
        have : (m ++ [ghOf (some (b5, 0)) (u32v k64).size [.seq (.int .u32) 64 k64]])[(hB ro b s z).length]? = some (ghOf (some (b5, 0)) (u32v k64).size [.seq (.int .u32) 64 k64]) := by
          rw [show (hB ro b s z).length = m.length from hm3.symm]; exact gm_app_new
        rw [this] at q3; cases q3; cases q4; exact q56)
    have i3 := add_block i2 hG n7 c7 (oc _ 8 s (.inr hs)) (fun j oj gj c q1 q2 q3 q4 => by
      rcases hget_app q1 with ⟨hj, q1⟩ | ⟨hj, _⟩
      · have q3 := gm_app_old (by rw [List.length_append, hm3]; exact hj) q3
        rcases hget_app q1 with ⟨hj, q1⟩ | ⟨hj, _⟩
        · exact Nat.ne_of_lt (Nat.lt_of_lt_of_le (old j oj gj c q1 (gm_app_old (by rw [hm3]; exact hj) q3) q4) n7)
        · subst hj
          have : (m ++ [ghOf (some (b5, 0)) (u32v k64).size [.seq (.int .u32) 64 k64]])[(hB ro b s z).length]? = some (ghOf (some (b5, 0)) (u32v k64).size [.seq (.int .u32) 64 k64]) := by
            rw [show (hB ro b s z).length = m.length from hm3.symm]; exact gm_app_new
          rw [this] at q3; cases q3; cases q4; exact q57
      · subst hj
        have : ((m ++ [ghOf (some (b5, 0)) (u32v k64).size [.seq (.int .u32) 64 k64]]) ++ [ghOf (some (b6, 0)) (u32v (wds b)).size [.seq (.int .u32) 64 (wds b)]])[(hB ro b s z ++ [some (⟨false, [.seq (.int .u32) 64 k64]⟩ : Ob)]).length]? = some (ghOf (some (b6, 0)) (u32v (wds b)).size [.seq (.int .u32) 64 (wds b)]) := by
          rw [show (hB ro b s z ++ [some (⟨false, [.seq (.int .u32) 64 k64]⟩ : Ob)]).length = (m ++ [ghOf (some (b5, 0)) (u32v k64).size [.seq (.int .u32) 64 k64]]).length by simp [hm3, hB]]; exact gm_app_new
        rw [this] at q3; cases q3; cases q4; exact q67)
    have k2 : a'.tmps.getD 2 undef = a.tmps.getD 2 undef := hp.keep 2 (by simp [VLb]) (by simp [CLb])
    have k4 : a'.tmps.getD 4 undef = a.tmps.getD 4 undef := hp.keep 4 (by simp [VLb]) (by simp [CLb])
    refine hq _ a' w' i3 (((pre_append _ _).trans (pre_append _ _)).trans (pre_append _ _)) ?_ (by rw [hp.len]; exact hsz) (hp.dfr.trans hgd)
    refine ⟨.inr ?_, .inr ?_, .inr ?_, .inr ?_, .inr ?_, trivial⟩
    · rw [k2]; exact TVRel.mono (((pre_append _ _).trans (pre_append _ _)).trans (pre_append _ _)) h2
    · rw [k4]; exact TVRel.mono (((pre_append _ _).trans (pre_append _ _)).trans (pre_append _ _)) h4
    · exact ⟨_, _, by rw [List.append_assoc, List.append_assoc, List.getElem?_append_right (by omega), hm3]; rfl, rfl, p5⟩
    · exact ⟨_, _, by rw [List.append_assoc, List.append_assoc, List.getElem?_append_right (by omega), hm3]; rfl, rfl, p6⟩
    · exact ⟨_, _, by rw [List.append_assoc, List.append_assoc, List.getElem?_append_right (by omega), hm3]; rfl, rfl, p7⟩
  · have hnone : ∀ j, (Array.replicate ops234.size false).getD j false = false := fun j => by
      simp only [Array.getD_eq_getD_getElem?, Array.getElem?_replicate]; split <;> rfl
    refine ⟨Ext.refl _, rfl, rfl, fun _ _ _ => rfl, fun p _ hl => ?_, fun c _ hl => ?_, fun c _ hl => ?_, fun c _ d _ _ hl => ?_⟩ <;> (rw [hnone] at hl; cases hl)
noncomputable def f234_1 {β : Type} (F : Nat) (a1 : List Int) (a2 : List Int) (K0 : List Int → Option β) : Option β :=
  cond (decide (100 ≤ F ∧ 64 ≤ a2.length)) (f234_0 F a2 a1 [0, 0, 0, 0, 0, 0, 0, 0] k64 (wds a2) a1 K0) none
def sh234_1 : Sh := ⟨[.agg [.seq (.int .u32) 8], .lf (.full 0)], [some ⟨none, [.seq (.int .u8) 0]⟩]⟩
noncomputable def S234_1 (F : Nat) (o : Summ) : Summ := mkS sh234_1 (fun d K => f234_1 F d.1.1.1 d.2.1.2.1 (fun (y0 : List Int) => K [.agg [.seq (.int .u32) 8 y0]] [some ⟨d.2.1.1, [.seq (.int .u8) 0 d.2.1.2.1]⟩])) o
noncomputable def ops0B : Array Oper := match cL code234 with | .region _ ops _ => ops | _ => #[]
theorem codeB : code234 = .seq (.region 0 ops0B false) (.seq (.region 1 ops234 true) rest234) := by kernel_rfl
def envB (s : List Int) : Env := eset (eset (argEnv 109 [.agg [.seq (.int .u32) 8 s], .lf (.full 0)]) 2 (.tv (.lf (.ptr 1 0)))) 4 (.tv (.lf (.ptr 2 0)))
set_option maxRecDepth 100000 in
theorem reg0B (F : Nat) (ro : Bool) (b s : List Int) (K0 : Xt → Env → Heap → Option Res) :
    evC Tryz.prog (T234_0 F) (xw []) 109 1 (LT234_0 F) (.region 0 ops0B false) (argEnv 109 [.agg [.seq (.int .u32) 8 s], .lf (.full 0)]) [some ⟨ro, [.seq (.int .u8) 0 b]⟩] K0 = K0 .normal (envB s) (hB ro b s [0, 0, 0, 0, 0, 0, 0, 0]) := by kernel_rfl
theorem ntB : Tryz.f234.ntmps = 109 := by kernel_rfl
theorem scB : scopesOf rest234 = [] := by kernel_rfl
theorem rgB : rangesOf rest234 = [] := by kernel_rfl
set_option maxRecDepth 100000 in
theorem blkB {F : Nat} (hF : 100 ≤ F) {ro : Bool} {b s : List Int} (hb : 64 ≤ b.length) {K : KF} {r : Res}
    (he : f234_0 F b s [0, 0, 0, 0, 0, 0, 0, 0] k64 (wds b) s (fun (y0 : List Int) => K [.agg [.seq (.int .u32) 8 y0]] [some ⟨ro, [.seq (.int .u8) 0 b]⟩]) = some r) :
    Contract Tryz.prog 234 [.agg [.seq (.int .u32) 8 s], .lf (.full 0)] [some ⟨ro, [.seq (.int .u8) 0 b]⟩] K r := by
  intro G m w cvs hw hgd hgh hi hx
  have hT := tabled234 F
  have hm : Tryz.prog.follows .mixedOrders = true := by kernel_rfl
  obtain ⟨hs, hv1⟩ : s.length = 8 ∧ True := by
    match cvs, hx with
    | v :: _, ⟨⟨cs, _, x, y, _, ⟨hl, _⟩, _⟩, _⟩ => exact ⟨hl.resolve_left (by omega), trivial⟩
  have hlm : m.length = 1 := hi.len
  have hst : Std Tryz.prog (xw []) 1 m G := ⟨fun y hy => (by cases hy), fun x hx => (by rw [hgh] at hx; cases hx), fun _ => hgh⟩
  refine (callsIn_wide (n := 0)).1 (callsIn_of_wp_marks (fn := Tryz.f234) (c := code234) (by kernel_rfl) (by kernel_rfl) trivial ?_)
  rw [codeB]
  have he0 : ERel G m (argEnv 109 [.agg [.seq (.int .u32) 8 s], .lf (.full 0)]) { tmps := cvs.toArray ++ Array.replicate (109 - cvs.toArray.size) undef, defers := [] } := argEnv_rel hx hgd
  rw [ntB]
  have hl0 : LoopsOK Tryz.prog (T234_0 F) (xw []) 109 1 (LT234_0 F) (loopsOf (.region 0 ops0B false)) := loopsOK_nil
  refine wpIn_seq (evC_wp (ro := none) (n := 0) (m0 := m) (r := ([], [])) (X := xw []) (fun _ => rfl) (fun _ => rfl) hm hT (.region 0 ops0B false) hl0 scopesOK_nil rangesOK_nil (K := fun e env' h' => @ite _ (e = .normal ∧ env' = envB s ∧ h' = hB ro b s [0, 0, 0, 0, 0, 0, 0, 0]) (Classical.propDecidable _) (some ([], [])) none) hst (Pin.refl (Nat.le_of_eq hlm.symm)) hi he0 (by rw [reg0B, if_pos ⟨rfl, rfl, rfl⟩]) ?_)
  intro G1 hG1 e1 env1 h1 m1 a1 w1 hk1 hi1 hp1 he1
  obtain ⟨rfl, rfl, rfl⟩ : e1 = .normal ∧ env1 = envB s ∧ h1 = hB ro b s [0, 0, 0, 0, 0, 0, 0, 0] := by
    by_cases hq : e1 = .normal ∧ env1 = envB s ∧ h1 = hB ro b s [0, 0, 0, 0, 0, 0, 0, 0]
    · exact hq
    · simp only [if_neg hq] at hk1; cases hk1
  have hG1' : SubR G G1 := by
    rcases hG1 with rfl | ⟨_, h0⟩
    · exact SubR.refl _
    · exact h0
  have hst1 := hst.sub hG1
  have hp0 : Pin 1 m m1 := hp1
  have g1 : LRel m1 (.full 0) (a1.tmps.getD 1 undef) := by
    rcases he1.val 1 with h0 | h0
    · exact h0.elim
    · exact h0
  have g2 : TVRel m1 (.lf (.ptr 1 0)) (a1.tmps.getD 2 undef) := by
    rcases he1.val 2 with h0 | h0
    · exact h0.elim
    · exact h0
  have g4 : TVRel m1 (.lf (.ptr 2 0)) (a1.tmps.getD 4 undef) := by
    rcases he1.val 4 with h0 | h0
    · exact h0.elim
    · exact h0
  refine wpIn_seq (wpIn_wide.2 (regB_wp hF hb hs hi1 g1 g2 g4 he1.len he1.dfr ?_))
  intro m2 a2 w2 hi2 hp2 hsl hsz2 hdf2
  have hlm2 : 1 ≤ m2.length := by rw [hi2.len]; simp [hB]
  have hpm2 : Pin 1 m m2 := hp0.trans (Pin.of_pre hp1.1 hp2)
  generalize wds b = W at he hi2
  generalize k64 = KK at he hi2
  have hheap : (hB ro b s [0, 0, 0, 0, 0, 0, 0, 0] ++ [some (⟨false, [.seq (.int .u32) 64 KK]⟩ : Ob)] ++ [some ⟨false, [.seq (.int .u32) 64 W]⟩] ++ [some ⟨false, [.seq (.int .u32) 8 s]⟩]) =
    encH sh234_0.h ((ro, b, ()), ((), s, ()), ((), [0, 0, 0, 0, 0, 0, 0, 0], ()), ((), KK, ()), ((), W, ()), ((), s, ()), ()) := by kernel_rfl
  rw [hheap] at hi2
  have hev := (E234_0 F ((), ((ro, b, ()), ((), s, ()), ((), [0, 0, 0, 0, 0, 0, 0, 0], ()), ((), KK, ()), ((), W, ()), ((), s, ()), ())) K).trans he
  have hl : LoopsOK Tryz.prog (T234_0 F) (xw []) 109 1 (LT234_0 F) (loopsOf rest234) := by
    have := looped234 F
    rw [codeB] at this
    exact this
  refine evC_wp (ro := none) (n := 0) (fun _ => rfl) (fun _ => rfl) hm hT rest234 hl (by rw [scB]; exact scopesOK_nil) (by rw [rgB]; exact rangesOK_nil) hst1 hpm2 hi2 (mkEnv_rel hsz2 hdf2 _ _ hsl) hev ?_
  intro G2 hG2 e env' h' m' a' w' hK hi' hp he'
  have hsub : SubR G G2 := hG1'.trans (by
    rcases hG2 with rfl | ⟨_, h0⟩
    · exact SubR.refl _
    · exact h0)
  have hpin : Pin 1 m m' := hpm2.trans hp
  have fin : ∀ {q : Option (List TV)}, resVals Tryz.prog env' h' Tryz.f234.results.toList = q → (match q with | some vs => normF false 1 [] vs h' K | none => none) = some r →
      LeavesInM Fence.wide 0 Tryz.prog Tryz.f234 a'.tmps (fun e w' => ∃ rs h', K rs h' = some r ∧ ∃ v' t, e = .returned v' ∧ ResRel (m ++ t) rs v' ∧ Inv G (m ++ t) h' w') a'.defers .returning w' := by
    intro q hq hk
    cases q with
    | none => cases hk
    | some vs1 =>
      rw [he'.dfr]
      refine leaves_marks hgh (fun w2 hi2 => ?_) G2.dfs w' (hsub.inv hi') G2.nd fun d hd => ?_
      · obtain ⟨xs1, h1, h2⟩ := results_of (fn := Tryz.f234) hi2 he' hq
        refine ⟨_, h2, ?_⟩
        simp only [normF_eq] at hk
        obtain ⟨rs, h3, m3, q1, q2, q3, q4, q5⟩ := normVs_sound hi2 hpin.1 (by rw [hgh]; intro x hx; cases hx) h1 hk
        have hpre : m3 = m ++ m3.drop 1 := by
          apply List.ext_getElem?
          intro i
          by_cases hlt : i < 1
          · rw [List.getElem?_append_left (by omega), q5 i hlt, hpin.2 i hlt]
          · rw [List.getElem?_append_right (by omega), List.getElem?_drop, hlm]
            congr 1; omega
        refine ⟨rs, h3, q1, _, m3.drop 1, rfl, ?_, ?_⟩
        · rw [← hpre]; exact resRel_of q3
        · rw [← hpre]; exact q2
      · obtain ⟨D, rfl, hD, hO⟩ := G2.hd d hd
        refine ⟨D, rfl, ?_, ?_⟩
        · rw [hi'.frame D (Array.getElem?_eq_some_iff.1 hD).1 hO]; exact hD
        · rcases hsub.dfs _ hd with h0 | ⟨D', h0, h1⟩
          · rw [hgd] at h0; cases h0
          · injection h0 with h0 _
            injection h0 with h0
            rw [h0]; exact h1
  cases e with
  | normal => exact fin rfl hK
  | ret => exact fin rfl hK
  | exit i => cases hK
  | goto i => cases hK
theorem S234_1_ok (F : Nat) (o : Summ) (ho : SoundFn Tryz.prog 234 o) : SoundFn Tryz.prog 234 (S234_1 F o) := by
  refine ⟨ho.enter, fun vs h K r he => ?_⟩
  unfold S234_1 mkS at he
  split at he
  rotate_left
  · exact ho.ok vs h K r he
  rename_i dv dh ha hb'
  have e1 := decT_enc _ _ _ ha
  have e2 := decH_enc _ _ _ hb'
  obtain ⟨⟨s, _⟩, _, _⟩ := dv
  obtain ⟨⟨ro, b, _⟩, _⟩ := dh
  have e1 : vs = [.agg [.seq (.int .u32) 8 s], .lf (.full 0)] := e1
  have e2 : h = [some ⟨ro, [.seq (.int .u8) 0 b]⟩] := e2
  subst e1
  subst e2
  have he : f234_1 F s b (fun (y0 : List Int) => K [.agg [.seq (.int .u32) 8 y0]] [some ⟨ro, [.seq (.int .u8) 0 b]⟩]) = some r := he
  unfold f234_1 at he
  obtain ⟨⟨hF, hb⟩, he⟩ := dec_of he
  exact blkB hF hb he
end
end Go.Proofs.YtlgopekjjkdkiaaGreatDoor.X
end
section
namespace Go.Proofs.YtlgopekjjkdkiaaGreatDoor.X
open Go Go.Proofs.YtlgopekjjkdkiaaGreatDoor.Ev Go.Proofs
set_option linter.unusedVariables false
set_option linter.unusedSectionVars false
section
noncomputable def f228_1_l3 {β : Type} (F : Nat) (v2 : Int) (v3 : List Int) (K0 : List Int → List Int → Option β) : Nat → List Int → List Int → Option β
  | 0, _, _ => none
  | k + 1, v1, v4 => cond (decide (((v4.length : Nat) : Int) ≥ 64)) (cond (decide ((0 : Int) ≤ (0 : Int) ∧ (0 : Int) ≤ (64 : Int) ∧ (64 : Int) ≤ ((v4.length : Nat) : Int))) (f234_1 F v1 ((v4.drop 0).take 64) (fun x5 => cond (decide ((0 : Int) ≤ (64 : Int) ∧ (64 : Int) ≤ ((v4.length : Nat) : Int) ∧ ((v4.length : Nat) : Int) ≤ ((v4.length : Nat) : Int))) (cond (decide ((0 + (((v4.drop 64).take ((((v4.length : Nat) : Int) - 64).toNat)).length)) * 1 ≤ 70368744177664)) (f228_1_l3 F v2 v3 K0 k x5 ([] ++ ((v4.drop 64).take ((((v4.length : Nat) : Int) - 64).toNat)))) none) none) ) none) (K0 v1 v4)
noncomputable def f228_1 {β : Type} (F : Nat) (a1 : List Int) (a2 : Int) (a3 a4 : List Int) (K0 : List Int → Int → List Int → Option β) : Option β := cond (decide ((a3.length + a4.length) * 1 ≤ 70368744177664)) (f228_1_l3 F (IntKind.u64.wrap (a2 + (IntKind.u64.wrap ((a4.length : Nat) : Int)))) a4 (fun x6 x7 => K0 x6 (IntKind.u64.wrap (a2 + (IntKind.u64.wrap ((a4.length : Nat) : Int)))) x7) F a1 (a3 ++ a4)) none
variable [FZ]
def sh228_1 : Sh := ⟨[.lf (.ptr 0 0), .lf (.full 2)], [some ⟨some false, [.seq (.int .u32) 8, .full 1, .int .u64]⟩, some ⟨some false, [.seq (.int .u8) 0]⟩, some ⟨none, [.seq (.int .u8) 0]⟩]⟩
abbrev Y228_1 := List Int → Int → List Int → List Int → (List Int → Int → List Int → Option Res) → Option Res
noncomputable def A228_1 (g : Y228_1) (d : sh228_1.den) (K : KF) : Option Res := g d.2.1.2.1 d.2.1.2.2.2.1 d.2.2.1.2.1 d.2.2.2.1.2.1 (fun y0 y1 y3 => K [] [some ⟨false, [.seq (.int .u32) 8 y0, .full 3, .int .u64 y1]⟩, none, some ⟨d.2.2.2.1.1, [.seq (.int .u8) 0 d.2.2.2.1.2.1]⟩, some ⟨false, [.seq (.int .u8) 0 y3]⟩])
noncomputable def S228_1 (F : Nat) (o : Summ) : Summ := mkS sh228_1 (fun d K => A228_1 (f228_1 F) d K) o
noncomputable def code228 : Code := bodyOf Tryz.f228
noncomputable def b228_0 : Code := cB (cB (cR (cR (cR (code228)))))
theorem loops228 : loopsOf code228 = [b228_0] := by kernel_rfl
theorem enter228 : En Tryz.prog 228 := enO (fn := Tryz.f228)
noncomputable def T228_1 (F : Nat) : FuncId → Option Summ := tab [(234, (S234_1 F noS))]
def sh228_1_l3 : Sh := ⟨[.lf (.ptr 0 0)], [some ⟨some false, [.seq (.int .u32) 8, .full 3, .int .u64]⟩, none, some ⟨none, [.seq (.int .u8) 0]⟩, some ⟨some false, [.seq (.int .u8) 0]⟩]⟩
abbrev Y228_1_l3 := Int → List Int → (List Int → List Int → Option Res) → Nat → List Int → List Int → Option Res
noncomputable def A228_1_l3 (g : Y228_1_l3) (k : Nat) (d : sh228_1_l3.den) (K : KL) : Option Res := g d.2.1.2.2.2.1 d.2.2.2.1.2.1 (fun y0 y3 => K (.exit 0) [] [some ⟨false, [.seq (.int .u32) 8 y0, .full 3, .int .u64 d.2.1.2.2.2.1]⟩, none, some ⟨d.2.2.2.1.1, [.seq (.int .u8) 0 d.2.2.2.1.2.1]⟩, some ⟨false, [.seq (.int .u8) 0 y3]⟩]) k d.2.1.2.1 d.2.2.2.2.1.2.1
noncomputable def G228_1_3 (F k : Nat) : LoopS := mkG sh228_1_l3 [0] (outT [(.exit 0, [])]) (fun d K => A228_1_l3 (f228_1_l3 F) k d K) []
noncomputable def LT228_1 (F : Nat) : Nat → Option LoopS := ltab [(3, G228_1_3 F F)]
theorem L228_1_3 (F : Nat) : LoopOK Tryz.prog (T228_1 F) (xw []) 54 3 (LT228_1 F) (G228_1_3 F F) b228_0 :=
  loopOK_of (s := sh228_1_l3) (live := [0]) (out := (outT [(.exit 0, [])])) (mv := []) (fun k d K => A228_1_l3 (f228_1_l3 F) k d K) F (fun d K => by kernel_rfl)  (fun k d K => by delta A228_1_l3; refine (f228_1_l3.eq_2 ..).trans ?_; delta T228_1 S234_1 LT228_1; generalize (G228_1_3 F F) = c;  (try delta G228_1_3); generalize (f234_1 F : List Int → List Int → (List Int → Option Res) → Option Res) = c, (f228_1_l3 F : Y228_1_l3) = c; as_aux_lemma => kernel_rfl)
theorem E228_1 (F : Nat) (d : sh228_1.den) (K : KF) : EB Tryz.prog (T228_1 F) (xw []) 54 3 (LT228_1 F) [1] false Tryz.f228 sh228_1 d K = A228_1 (f228_1 F) d K := by delta A228_1 f228_1 T228_1 S234_1 LT228_1;  delta G228_1_3; generalize (f234_1 F : List Int → List Int → (List Int → Option Res) → Option Res) = c, (f228_1_l3 F : Y228_1_l3) = c; as_aux_lemma => kernel_rfl
theorem S228_1_ok : So Tryz.prog 228 S228_1 :=
  fun F o ho => sOf (fn := Tryz.f228) (c := code228) (tab_cons (S234_1_ok F _ (noS_sound enter234)) tab_nil) ho (by rw [loops228]; exact (loopsOK_cons (by kernel_rfl) (L228_1_3 F) loopsOK_nil)) snil rnil (E228_1 F)
end
section
noncomputable def f229_1_l10 {β : Type} (F : Nat) (v1 v2 v3 : Nat) (v4 : Int) (v6 : List Int) (v7 : Int) (v8 : List Int) (K0 : List Int → Option β) : Nat → Int → List Int → Option β
  | 0, _, _ => none
  | k + 1, v5, v9 => cond (decide (v5 < 8)) (cond (decide (IntKind.i64.wrap (8 * v5) < 0)) none (cond (decide ((0 : Int) ≤ IntKind.i64.wrap ((IntKind.i64.wrap (((v2 : Nat) : Int) - 1)) - v5) ∧ IntKind.i64.wrap ((IntKind.i64.wrap (((v2 : Nat) : Int) - 1)) - v5) < ((v2 : Nat) : Int))) (cond (decide (v1 + ((IntKind.i64.wrap ((IntKind.i64.wrap (((v2 : Nat) : Int) - 1)) - v5)).toNat) < v9.length)) (f229_1_l10 F v1 v2 v3 v4 v6 v7 v8 K0 k (IntKind.i64.wrap (v5 + 1)) (v9.set (v1 + ((IntKind.i64.wrap ((IntKind.i64.wrap (((v2 : Nat) : Int) - 1)) - v5)).toNat)) (IntKind.u8.wrap (ishr .u64 v4 (IntKind.i64.wrap (8 * v5)))))) none) none)) (K0 v9)
noncomputable def f229_1_l15 {β : Type} (F : Nat) (v14 : List Int) (v15 : Int) (v16 v17 : List Int) (K0 : List Int → Option β) : Nat → Nat → Nat → Nat → List Int → Option β
  | 0, _, _, _, _ => none
  | k + 1, v11, v12, v13, v18 => cond (decide (((v12 : Nat) : Int) > 0)) (f234_1 F v18 ((v17.drop v11).take v12) (fun x19 => cond (decide ((0 : Int) ≤ (64 : Int) ∧ (64 : Int) ≤ ((v12 : Nat) : Int) ∧ ((v12 : Nat) : Int) ≤ ((v13 : Nat) : Int))) (f229_1_l15 F v14 v15 v16 v17 K0 k (v11 + 64) ((((v12 : Nat) : Int) - 64).toNat) (v13 - 64) x19) none) ) (K0 v18)
noncomputable def f229_1_l20 {β : Type} (F : Nat) (v21 v23 : List Int) (v24 : Int) (v25 : List Int) (K0 : List Int → Option β) : Nat → Int → List Int → Option β
  | 0, _, _ => none
  | k + 1, v22, v26 => cond (decide (v22 < 8)) (cond (decide ((0 : Int) ≤ v22 ∧ v22 < 8)) (cond (decide ((v26.length + 4) * 1 ≤ 70368744177664)) (f229_1_l20 F v21 v23 v24 v25 K0 k (IntKind.i64.wrap (v22 + 1)) (v26 ++ [IntKind.u8.wrap (ishr .u32 (v21.getD v22.toNat 0) 24), IntKind.u8.wrap (ishr .u32 (v21.getD v22.toNat 0) 16), IntKind.u8.wrap (ishr .u32 (v21.getD v22.toNat 0) 8), IntKind.u8.wrap (v21.getD v22.toNat 0)])) none) none) (K0 v26)
noncomputable def f229_1 {β : Type} (F : Nat) (a1 : List Int) (a2 : Int) (a3 : List Int) (K0 : ByteArray → Option β) : Option β := cond (decide ((0 : Int) ≤ ((min a3.length 64 : Nat) : Int) ∧ ((min a3.length 64 : Nat) : Int) < (64 : Int))) (cond (decide (0 + (((min a3.length 64 : Nat) : Int).toNat) < ((List.replicate 128 0).take 0 ++ (a3.take 64 ++ (List.replicate 128 0).drop (0 + (min a3.length 64)))).length)) (cond (decide (((min a3.length 64 : Nat) : Int) ≥ 56)) (f229_1_l10 F 0 128 128 (IntKind.u64.wrap (8 * a2)) a1 a2 a3 (fun x10 => f229_1_l15 F a1 a2 a3 x10 (fun x20 => f229_1_l20 F x20 a1 a2 a3 (fun x27 => K0 (ofInts x27)) F 0 []) F 0 128 128 a1) F 0 (((List.replicate 128 0).take 0 ++ (a3.take 64 ++ (List.replicate 128 0).drop (0 + (min a3.length 64)))).set (0 + (((min a3.length 64 : Nat) : Int).toNat)) 128)) (f229_1_l10 F 0 64 128 (IntKind.u64.wrap (8 * a2)) a1 a2 a3 (fun x28 => f229_1_l15 F a1 a2 a3 x28 (fun x29 => f229_1_l20 F x29 a1 a2 a3 (fun x30 => K0 (ofInts x30)) F 0 []) F 0 64 128 a1) F 0 (((List.replicate 128 0).take 0 ++ (a3.take 64 ++ (List.replicate 128 0).drop (0 + (min a3.length 64)))).set (0 + (((min a3.length 64 : Nat) : Int).toNat)) 128))) none) none
variable [FZ]
def sh229_1 : Sh := ⟨[.lf (.ptr 0 0)], [some ⟨none, [.seq (.int .u32) 8, .full 1, .int .u64]⟩, some ⟨none, [.seq (.int .u8) 0]⟩]⟩
abbrev Y229_1 := List Int → Int → List Int → (ByteArray → Option Res) → Option Res
noncomputable def A229_1 (g : Y229_1) (d : sh229_1.den) (K : KF) : Option Res := g d.2.1.2.1 d.2.1.2.2.2.1 d.2.2.1.2.1 (fun y0 => K [.lf (.str y0)] [some ⟨d.2.1.1, [.seq (.int .u32) 8 d.2.1.2.1, .full 1, .int .u64 d.2.1.2.2.2.1]⟩, some ⟨d.2.2.1.1, [.seq (.int .u8) 0 d.2.2.1.2.1]⟩])
noncomputable def S229_1 (F : Nat) (o : Summ) : Summ := mkS sh229_1 (fun d K => A229_1 (f229_1 F) d K) o
noncomputable def code229 : Code := bodyOf Tryz.f229
noncomputable def b229_0 : Code := cB (cB (cR (cL (cR (cR (cR (cR (cR (cR (cR (code229)))))))))))
noncomputable def b229_1 : Code := cB (cB (cL (cR (cR (cR (cR (cR (cR (cR (cR (cR (code229))))))))))))
noncomputable def b229_2 : Code := cB (cB (cR (cL (cR (cR (cR (cR (cR (cR (cR (cR (cR (cR (cR (code229)))))))))))))))
theorem loops229 : loopsOf code229 = [b229_0, b229_1, b229_2] := by kernel_rfl
theorem enter229 : En Tryz.prog 229 := enO (fn := Tryz.f229)
noncomputable def T229_1 (F : Nat) : FuncId → Option Summ := tab [(234, (S234_1 F noS))]
def sh229_1_l10 : Sh := ⟨[.lf (.ptr 0 0), .lf (.sliceC 2 0), .lf (.int .u64), .lf (.int .i64)], [some ⟨none, [.seq (.int .u32) 8, .full 1, .int .u64]⟩, some ⟨none, [.seq (.int .u8) 0]⟩, some ⟨some false, [.seq (.int .u8) 0]⟩]⟩
abbrev Y229_1_l10 := Nat → Nat → Nat → Int → List Int → Int → List Int → (List Int → Option Res) → Nat → Int → List Int → Option Res
noncomputable def A229_1_l10 (g : Y229_1_l10) (k : Nat) (d : sh229_1_l10.den) (K : KL) : Option Res := g d.1.2.1.1 d.1.2.1.2.1 d.1.2.1.2.2 d.1.2.2.1 d.2.1.2.1 d.2.1.2.2.2.1 d.2.2.1.2.1 (fun y6 => K (.exit 0) [.tv (.lf (.ptr 0 0)), .tv (.lf (.slice 2 0 d.1.2.1.1 d.1.2.1.2.1 (some d.1.2.1.2.2)))] [some ⟨d.2.1.1, [.seq (.int .u32) 8 d.2.1.2.1, .full 1, .int .u64 d.2.1.2.2.2.1]⟩, some ⟨d.2.2.1.1, [.seq (.int .u8) 0 d.2.2.1.2.1]⟩, some ⟨false, [.seq (.int .u8) 0 y6]⟩]) k d.1.2.2.2.1 d.2.2.2.1.2.1
def sh229_1_l15 : Sh := ⟨[.lf (.sliceC 2 0), .lf (.ptr 3 0)], [some ⟨none, [.seq (.int .u32) 8, .full 1, .int .u64]⟩, some ⟨none, [.seq (.int .u8) 0]⟩, some ⟨some false, [.seq (.int .u8) 0]⟩, some ⟨some false, [.seq (.int .u32) 8]⟩]⟩
abbrev Y229_1_l15 := List Int → Int → List Int → List Int → (List Int → Option Res) → Nat → Nat → Nat → Nat → List Int → Option Res
noncomputable def A229_1_l15 (g : Y229_1_l15) (k : Nat) (d : sh229_1_l15.den) (K : KL) : Option Res := g d.2.1.2.1 d.2.1.2.2.2.1 d.2.2.1.2.1 d.2.2.2.1.2.1 (fun y4 => K (.exit 2) [.tv (.lf (.ptr 3 0))] [some ⟨d.2.1.1, [.seq (.int .u32) 8 d.2.1.2.1, .full 1, .int .u64 d.2.1.2.2.2.1]⟩, some ⟨d.2.2.1.1, [.seq (.int .u8) 0 d.2.2.1.2.1]⟩, some ⟨false, [.seq (.int .u8) 0 d.2.2.2.1.2.1]⟩, some ⟨false, [.seq (.int .u32) 8 y4]⟩]) k d.1.1.1 d.1.1.2.1 d.1.1.2.2 d.2.2.2.2.1.2.1
def sh229_1_l20 : Sh := ⟨[.lf (.full 2), .agg [.seq (.int .u32) 8], .lf (.int .i64)], [some ⟨none, [.seq (.int .u32) 8, .full 1, .int .u64]⟩, some ⟨none, [.seq (.int .u8) 0]⟩, some ⟨some false, [.seq (.int .u8) 0]⟩]⟩
abbrev Y229_1_l20 := List Int → List Int → Int → List Int → (List Int → Option Res) → Nat → Int → List Int → Option Res
noncomputable def A229_1_l20 (g : Y229_1_l20) (k : Nat) (d : sh229_1_l20.den) (K : KL) : Option Res := g d.1.2.1.1 d.2.1.2.1 d.2.1.2.2.2.1 d.2.2.1.2.1 (fun y3 => K (.exit 4) [.tv (.lf (.full 2))] [some ⟨d.2.1.1, [.seq (.int .u32) 8 d.2.1.2.1, .full 1, .int .u64 d.2.1.2.2.2.1]⟩, some ⟨d.2.2.1.1, [.seq (.int .u8) 0 d.2.2.1.2.1]⟩, some ⟨false, [.seq (.int .u8) 0 y3]⟩]) k d.1.2.2.1 d.2.2.2.1.2.1
noncomputable def G229_1_10 (F k : Nat) : LoopS := mkG sh229_1_l10 [0, 3, 5, 32] (outT [(.exit 0, [0, 3])]) (fun d K => A229_1_l10 (f229_1_l10 F) k d K) []
noncomputable def G229_1_15 (F k : Nat) : LoopS := mkG sh229_1_l15 [3, 7] (outT [(.exit 2, [7])]) (fun d K => A229_1_l15 (f229_1_l15 F) k d K) []
noncomputable def G229_1_20 (F k : Nat) : LoopS := mkG sh229_1_l20 [8, 60, 61] (outT [(.exit 4, [8])]) (fun d K => A229_1_l20 (f229_1_l20 F) k d K) []
noncomputable def LT229_1 (F : Nat) : Nat → Option LoopS := ltab [(10, G229_1_10 F F), (15, G229_1_15 F F), (20, G229_1_20 F F)]
theorem L229_1_10 (F : Nat) : LoopOK Tryz.prog (T229_1 F) (xw []) 81 2 (LT229_1 F) (G229_1_10 F F) b229_0 :=
  loopOK_of (s := sh229_1_l10) (live := [0, 3, 5, 32]) (out := (outT [(.exit 0, [0, 3])])) (mv := []) (fun k d K => A229_1_l10 (f229_1_l10 F) k d K) F (fun d K => by kernel_rfl)  (fun k d K => by delta A229_1_l10; refine (f229_1_l10.eq_2 ..).trans ?_; delta T229_1 S234_1 LT229_1; generalize (G229_1_10 F F) = c, (G229_1_15 F F) = c, (G229_1_20 F F) = c;  (try delta G229_1_10); generalize (f234_1 F : List Int → List Int → (List Int → Option Res) → Option Res) = c, (f229_1_l10 F : Y229_1_l10) = c; as_aux_lemma => kernel_rfl)
theorem L229_1_15 (F : Nat) : LoopOK Tryz.prog (T229_1 F) (xw []) 81 2 (LT229_1 F) (G229_1_15 F F) b229_1 :=
  loopOK_of (s := sh229_1_l15) (live := [3, 7]) (out := (outT [(.exit 2, [7])])) (mv := []) (fun k d K => A229_1_l15 (f229_1_l15 F) k d K) F (fun d K => by kernel_rfl)  (fun k d K => by delta A229_1_l15; refine (f229_1_l15.eq_2 ..).trans ?_; delta T229_1 S234_1 LT229_1; generalize (G229_1_10 F F) = c, (G229_1_15 F F) = c, (G229_1_20 F F) = c;  (try delta G229_1_15); generalize (f234_1 F : List Int → List Int → (List Int → Option Res) → Option Res) = c, (f229_1_l15 F : Y229_1_l15) = c; as_aux_lemma => kernel_rfl)
theorem L229_1_20 (F : Nat) : LoopOK Tryz.prog (T229_1 F) (xw []) 81 2 (LT229_1 F) (G229_1_20 F F) b229_2 :=
  loopOK_of (s := sh229_1_l20) (live := [8, 60, 61]) (out := (outT [(.exit 4, [8])])) (mv := []) (fun k d K => A229_1_l20 (f229_1_l20 F) k d K) F (fun d K => by kernel_rfl)  (fun k d K => by delta A229_1_l20; refine (f229_1_l20.eq_2 ..).trans ?_; delta T229_1 S234_1 LT229_1; generalize (G229_1_10 F F) = c, (G229_1_15 F F) = c, (G229_1_20 F F) = c;  (try delta G229_1_20); generalize (f234_1 F : List Int → List Int → (List Int → Option Res) → Option Res) = c, (f229_1_l20 F : Y229_1_l20) = c; as_aux_lemma => kernel_rfl)
theorem E229_1 (F : Nat) (d : sh229_1.den) (K : KF) : EB Tryz.prog (T229_1 F) (xw []) 81 2 (LT229_1 F) [] false Tryz.f229 sh229_1 d K = A229_1 (f229_1 F) d K := by delta A229_1 f229_1 T229_1 S234_1 LT229_1;  delta G229_1_10 G229_1_15 G229_1_20; generalize (f234_1 F : List Int → List Int → (List Int → Option Res) → Option Res) = c, (f229_1_l10 F : Y229_1_l10) = c, (f229_1_l15 F : Y229_1_l15) = c, (f229_1_l20 F : Y229_1_l20) = c; as_aux_lemma => kernel_rfl
theorem S229_1_ok : So Tryz.prog 229 S229_1 :=
  fun F o ho => sOf (fn := Tryz.f229) (c := code229) (tab_cons (S234_1_ok F _ (noS_sound enter234)) tab_nil) ho (by rw [loops229]; exact (loopsOK_cons (by kernel_rfl) (L229_1_10 F) (loopsOK_cons (by kernel_rfl) (L229_1_15 F) (loopsOK_cons (by kernel_rfl) (L229_1_20 F) loopsOK_nil)))) snil rnil (E229_1 F)
end
section
noncomputable def f218_1_l4 {β : Type} (F : Nat) (v6 : Int) (v8 : List ByteArray) (K0 : List Int → Int → List Int → Option β) : Nat → Int → List Int → Int → List Int → Option β
  | 0, _, _, _, _ => none
  | k + 1, v7, v9, v10, v11 => cond (decide (v7 < v6)) (cond (decide ((0 : Int) ≤ v7 ∧ v7 < ((v8.length : Nat) : Int))) (cond (decide (0 + v7.toNat < v8.length)) (f228_1 F v9 v10 v11 (toInts (v8.getD (0 + v7.toNat) ByteArray.empty)) (fun x12 x13 x14 => f218_1_l4 F v6 v8 K0 k (IntKind.i64.wrap (v7 + 1)) x12 x13 x14) ) none) none) (K0 v9 v10 v11)
noncomputable def f218_1 {β : Type} (F : Nat) (a1 : Int) (a2 : List ByteArray) (K0 : ByteArray → Option β) : Option β := f227_1 F  (fun x1 x2 => f228_1 F x1 0 x2 [a1] (fun x3 x4 x5 => f218_1_l4 F ((a2.length : Nat) : Int) a2 (fun x15 x16 x17 => f229_1 F x15 x16 x17 (fun x18 => K0 x18) ) F 0 x3 x4 x5) ) 
variable [FZ]
def sh218_1 : Sh := ⟨[.lf (.int .u8), .lf (.full 0)], [some ⟨none, [.seq .str 0]⟩]⟩
abbrev Y218_1 := Int → List ByteArray → (ByteArray → Option Res) → Option Res
noncomputable def A218_1 (g : Y218_1) (d : sh218_1.den) (K : KF) : Option Res := g d.1.1 d.2.1.2.1 (fun y0 => K [.lf (.str y0)] [some ⟨d.2.1.1, [.seq .str 0 d.2.1.2.1]⟩])
noncomputable def S218_1 (F : Nat) (o : Summ) : Summ := mkS sh218_1 (fun d K => A218_1 (f218_1 F) d K) o
noncomputable def code218 : Code := bodyOf Tryz.f218
noncomputable def b218_0 : Code := cB (cB (cR (cL (cR (cR (cR (code218)))))))
theorem loops218 : loopsOf code218 = [b218_0] := by kernel_rfl
theorem enter218 : En Tryz.prog 218 := enO (fn := Tryz.f218)
noncomputable def T218_1 (F : Nat) : FuncId → Option Summ := tab [(227, (S227_1 F noS)), (228, (S228_1 F noS)), (229, (S229_1 F noS))]
def sh218_1_l4 : Sh := ⟨[.lf (.ptr 1 0), .lf (.full 0), .lf (.int .i64), .lf (.int .i64)], [some ⟨none, [.seq .str 0]⟩, some ⟨some false, [.seq (.int .u32) 8, .full 2, .int .u64]⟩, some ⟨some false, [.seq (.int .u8) 0]⟩]⟩
abbrev Y218_1_l4 := Int → List ByteArray → (List Int → Int → List Int → Option Res) → Nat → Int → List Int → Int → List Int → Option Res
noncomputable def A218_1_l4 (g : Y218_1_l4) (k : Nat) (d : sh218_1_l4.den) (K : KL) : Option Res := g d.1.2.2.1 d.2.1.2.1 (fun y1 y2 y3 => K (.exit 0) [.tv (.lf (.ptr 1 0))] [some ⟨d.2.1.1, [.seq .str 0 d.2.1.2.1]⟩, some ⟨false, [.seq (.int .u32) 8 y1, .full 2, .int .u64 y2]⟩, some ⟨false, [.seq (.int .u8) 0 y3]⟩]) k d.1.2.2.2.1 d.2.2.1.2.1 d.2.2.1.2.2.2.1 d.2.2.2.1.2.1
noncomputable def G218_1_4 (F k : Nat) : LoopS := mkG sh218_1_l4 [5, 13, 14, 15] (outT [(.exit 0, [5])]) (fun d K => A218_1_l4 (f218_1_l4 F) k d K) []
noncomputable def LT218_1 (F : Nat) : Nat → Option LoopS := ltab [(4, G218_1_4 F F)]
theorem L218_1_4 (F : Nat) : LoopOK Tryz.prog (T218_1 F) (xw []) 26 1 (LT218_1 F) (G218_1_4 F F) b218_0 :=
  loopOK_of (s := sh218_1_l4) (live := [5, 13, 14, 15]) (out := (outT [(.exit 0, [5])])) (mv := []) (fun k d K => A218_1_l4 (f218_1_l4 F) k d K) F (fun d K => by kernel_rfl)  (fun k d K => by delta A218_1_l4; refine (f218_1_l4.eq_2 ..).trans ?_; delta T218_1 S227_1 S228_1 S229_1 LT218_1; generalize (G218_1_4 F F) = c;  (try delta G218_1_4); generalize (f227_1 F : Y227_1) = c, (f228_1 F : Y228_1) = c, (f229_1 F : Y229_1) = c, (f218_1_l4 F : Y218_1_l4) = c; as_aux_lemma => kernel_rfl)
theorem E218_1 (F : Nat) (d : sh218_1.den) (K : KF) : EB Tryz.prog (T218_1 F) (xw []) 26 1 (LT218_1 F) [] false Tryz.f218 sh218_1 d K = A218_1 (f218_1 F) d K := by delta A218_1 f218_1 T218_1 S227_1 S228_1 S229_1 LT218_1;  delta G218_1_4; generalize (f227_1 F : Y227_1) = c, (f228_1 F : Y228_1) = c, (f229_1 F : Y229_1) = c, (f218_1_l4 F : Y218_1_l4) = c; as_aux_lemma => kernel_rfl
theorem S218_1_ok : So Tryz.prog 218 S218_1 :=
  fun F o ho => sOf (fn := Tryz.f218) (c := code218) (tab_cons (S227_1_ok F _ (noS_sound enter227)) (tab_cons (S228_1_ok F _ (noS_sound enter228)) (tab_cons (S229_1_ok F _ (noS_sound enter229)) tab_nil))) ho (by rw [loops218]; exact (loopsOK_cons (by kernel_rfl) (L218_1_4 F) loopsOK_nil)) snil rnil (E218_1 F)
end
section
noncomputable def f197_1 {β : Type} (F : Nat) (a1 : ByteArray) (K0 : ByteArray → Option β) : Option β := f218_1 F 0 [a1] (fun x1 => K0 x1) 
variable [FZ]
def sh197_1 : Sh := ⟨[.lf (.str)], []⟩
abbrev Y197_1 := ByteArray → (ByteArray → Option Res) → Option Res
noncomputable def A197_1 (g : Y197_1) (d : sh197_1.den) (K : KF) : Option Res := g d.1.1 (fun y0 => K [.lf (.str y0)] [])
noncomputable def S197_1 (F : Nat) (o : Summ) : Summ := mkS sh197_1 (fun d K => A197_1 (f197_1 F) d K) o
noncomputable def code197 : Code := bodyOf Tryz.f197
theorem enter197 : En Tryz.prog 197 := enO (fn := Tryz.f197)
noncomputable def T197_1 (F : Nat) : FuncId → Option Summ := tab [(218, (S218_1 F noS))]
noncomputable def LT197_1 (F : Nat) : Nat → Option LoopS := ltab []
theorem E197_1 (F : Nat) (d : sh197_1.den) (K : KF) : EB Tryz.prog (T197_1 F) (xw []) 6 0 (LT197_1 F) [] false Tryz.f197 sh197_1 d K = A197_1 (f197_1 F) d K := by delta A197_1 f197_1 T197_1 S218_1 LT197_1;  generalize (f218_1 F : Y218_1) = c; as_aux_lemma => kernel_rfl
theorem S197_1_ok : So Tryz.prog 197 S197_1 :=
  fun F o ho => sOf (fn := Tryz.f197) (c := code197) (tab_cons (S218_1_ok F _ (noS_sound enter218)) tab_nil) ho lnil snil rnil (E197_1 F)
end
section
noncomputable def f160_1_l3 {β : Type} (F : Nat) (v2 v4 : Int) (v5 : Bool) (v6 : Int) (v7 : List ByteArray) (v8 : List (Int × ByteArray)) (v9 v10 v11 v12 : Int) (v13 : List Bool) (K0 : Int → List ByteArray → Option β) (K1 : List ByteArray → Option β) : Nat → Int → List ByteArray → Option β
  | 0, _, _ => none
  | k + 1, v3, v14 => cond (decide (v3 < v2)) (f197_1 F ByteArray.empty (fun x15 => cond (decide ((0 : Int) ≤ v3 ∧ v3 < 256)) (cond (decide (v3.toNat < v13.length)) (cond (!(v13.getD v3.toNat false)) (f103_1 F v9 v10 v11 v12 v3 v4 v5 v6 v7 v8 (fun x16 x17 => cond (x17 != 0) (K0 x17 v14) (cond (decide ((v14.length + 1) * 16 ≤ 70368744177664)) (f160_1_l3 F v2 v4 v5 v6 v7 v8 v9 v10 v11 v12 v13 K0 K1 k (IntKind.i64.wrap (v3 + 1)) (v14 ++ [x16])) none)) ) (cond (decide ((v14.length + 1) * 16 ≤ 70368744177664)) (f160_1_l3 F v2 v4 v5 v6 v7 v8 v9 v10 v11 v12 v13 K0 K1 k (IntKind.i64.wrap (v3 + 1)) (v14 ++ [x15])) none)) none) none) ) (K1 v14)
noncomputable def f160_1 {β : Type} (F : Nat) (a1 a2 a3 a4 : Int) (a5 : List Bool) (a6 : Int) (a7 : Bool) (a8 : Int) (a9 : List ByteArray) (a10 : List (Int × ByteArray)) (K0 : Int → List ByteArray → Option β) : Option β := f111_1 F a1 a2 a3 a4 (fun x1 => f160_1_l3 F x1 a6 a7 a8 a9 a10 a1 a2 a3 a4 a5 (fun x18 x19 => K0 x18 []) (fun x20 => K0 0 x20) F 0 []) 
variable [FZ]
def sh160_1 : Sh := ⟨[.lf (.ptr 0 0), .agg [.int .i64, .int .i64, .int .i64, .int .i64], .agg [.seq .bool 256]], [some ⟨none, [.full 1, .full 2, .int .i64, .bool, .int .i64]⟩, some ⟨none, [.seq .str 0]⟩, some ⟨none, [.seq (.pair (.int .i64) .str) 0]⟩]⟩
abbrev Y160_1 := Int → Int → Int → Int → List Bool → Int → Bool → Int → List ByteArray → List (Int × ByteArray) → (Int → List ByteArray → Option Res) → Option Res
noncomputable def A160_1 (g : Y160_1) (d : sh160_1.den) (K : KF) : Option Res := g d.1.2.1.1 d.1.2.1.2.1 d.1.2.1.2.2.1 d.1.2.1.2.2.2.1 d.1.2.2.1.1 d.2.1.2.2.2.1 d.2.1.2.2.2.2.1 d.2.1.2.2.2.2.2.1 d.2.2.1.2.1 d.2.2.2.1.2.1 (fun y0 y6 => K [.lf (.full 3), .lf (.int .i64 y0)] [some ⟨d.2.1.1, [.full 1, .full 2, .int .i64 d.2.1.2.2.2.1, .bool d.2.1.2.2.2.2.1, .int .i64 d.2.1.2.2.2.2.2.1]⟩, some ⟨d.2.2.1.1, [.seq .str 0 d.2.2.1.2.1]⟩, some ⟨d.2.2.2.1.1, [.seq (.pair (.int .i64) .str) 0 d.2.2.2.1.2.1]⟩, some ⟨false, [.seq .str 0 y6]⟩])
noncomputable def S160_1 (F : Nat) (o : Summ) : Summ := mkS sh160_1 (fun d K => A160_1 (f160_1 F) d K) o
noncomputable def code160 : Code := bodyOf Tryz.f160
noncomputable def b160_0 : Code := cB (cB (cR (cL (cR (cR (code160))))))
theorem loops160 : loopsOf code160 = [b160_0] := by kernel_rfl
theorem enter160 : En Tryz.prog 160 := enO (fn := Tryz.f160)
noncomputable def T160_1 (F : Nat) : FuncId → Option Summ := tab [(103, (S103_1 F noS)), (111, (S111_1 F noS)), (197, (S197_1 F noS))]
def sh160_1_l3 : Sh := ⟨[.lf (.ptr 0 0), .lf (.ptr 3 0), .lf (.ptr 4 0), .lf (.full 5), .lf (.int .i64), .lf (.int .i64)], [some ⟨none, [.full 1, .full 2, .int .i64, .bool, .int .i64]⟩, some ⟨none, [.seq .str 0]⟩, some ⟨none, [.seq (.pair (.int .i64) .str) 0]⟩, some ⟨some false, [.int .i64, .int .i64, .int .i64, .int .i64]⟩, some ⟨some false, [.seq .bool 256]⟩, some ⟨some false, [.seq .str 0]⟩]⟩
abbrev Y160_1_l3 := Int → Int → Bool → Int → List ByteArray → List (Int × ByteArray) → Int → Int → Int → Int → List Bool → (Int → List ByteArray → Option Res) → (List ByteArray → Option Res) → Nat → Int → List ByteArray → Option Res
noncomputable def A160_1_l3 (g : Y160_1_l3) (k : Nat) (d : sh160_1_l3.den) (K : KL) : Option Res := g d.1.2.2.2.2.1 d.2.1.2.2.2.1 d.2.1.2.2.2.2.1 d.2.1.2.2.2.2.2.1 d.2.2.1.2.1 d.2.2.2.1.2.1 d.2.2.2.2.1.2.1 d.2.2.2.2.1.2.2.1 d.2.2.2.2.1.2.2.2.1 d.2.2.2.2.1.2.2.2.2.1 d.2.2.2.2.2.1.2.1 (fun y0 y11 => K .ret [.tv (.lf (.nils (some .str))), .tv (.lf (.int .i64 y0))] [some ⟨d.2.1.1, [.full 1, .full 2, .int .i64 d.2.1.2.2.2.1, .bool d.2.1.2.2.2.2.1, .int .i64 d.2.1.2.2.2.2.2.1]⟩, some ⟨d.2.2.1.1, [.seq .str 0 d.2.2.1.2.1]⟩, some ⟨d.2.2.2.1.1, [.seq (.pair (.int .i64) .str) 0 d.2.2.2.1.2.1]⟩, some ⟨false, [.int .i64 d.2.2.2.2.1.2.1, .int .i64 d.2.2.2.2.1.2.2.1, .int .i64 d.2.2.2.2.1.2.2.2.1, .int .i64 d.2.2.2.2.1.2.2.2.2.1]⟩, some ⟨false, [.seq .bool 256 d.2.2.2.2.2.1.2.1]⟩, some ⟨false, [.seq .str 0 y11]⟩]) (fun y10 => K (.exit 0) [.tv (.lf (.full 5))] [some ⟨d.2.1.1, [.full 1, .full 2, .int .i64 d.2.1.2.2.2.1, .bool d.2.1.2.2.2.2.1, .int .i64 d.2.1.2.2.2.2.2.1]⟩, some ⟨d.2.2.1.1, [.seq .str 0 d.2.2.1.2.1]⟩, some ⟨d.2.2.2.1.1, [.seq (.pair (.int .i64) .str) 0 d.2.2.2.1.2.1]⟩, some ⟨false, [.int .i64 d.2.2.2.2.1.2.1, .int .i64 d.2.2.2.2.1.2.2.1, .int .i64 d.2.2.2.2.1.2.2.2.1, .int .i64 d.2.2.2.2.1.2.2.2.2.1]⟩, some ⟨false, [.seq .bool 256 d.2.2.2.2.2.1.2.1]⟩, some ⟨false, [.seq .str 0 y10]⟩]) k d.1.2.2.2.2.2.1 d.2.2.2.2.2.2.1.2.1
noncomputable def G160_1_3 (F k : Nat) : LoopS := mkG sh160_1_l3 [0, 4, 5, 8, 13, 14] (outT [(.exit 0, [8]), (.ret, [6, 7])]) (fun d K => A160_1_l3 (f160_1_l3 F) k d K) []
noncomputable def LT160_1 (F : Nat) : Nat → Option LoopS := ltab [(3, G160_1_3 F F)]
theorem L160_1_3 (F : Nat) : LoopOK Tryz.prog (T160_1 F) (xw []) 38 3 (LT160_1 F) (G160_1_3 F F) b160_0 :=
  loopOK_of (s := sh160_1_l3) (live := [0, 4, 5, 8, 13, 14]) (out := (outT [(.exit 0, [8]), (.ret, [6, 7])])) (mv := []) (fun k d K => A160_1_l3 (f160_1_l3 F) k d K) F (fun d K => by kernel_rfl)  (fun k d K => by delta A160_1_l3; refine (f160_1_l3.eq_2 ..).trans ?_; delta T160_1 S103_1 S111_1 S197_1 LT160_1; generalize (G160_1_3 F F) = c;  (try delta G160_1_3); generalize (f103_1 F : Y103_1) = c, (f111_1 F : Y111_1) = c, (f197_1 F : Y197_1) = c, (f160_1_l3 F : Y160_1_l3) = c; as_aux_lemma => kernel_rfl)
theorem E160_1 (F : Nat) (d : sh160_1.den) (K : KF) : EB Tryz.prog (T160_1 F) (xw []) 38 3 (LT160_1 F) [] false Tryz.f160 sh160_1 d K = A160_1 (f160_1 F) d K := by delta A160_1 f160_1 T160_1 S103_1 S111_1 S197_1 LT160_1;  delta G160_1_3; generalize (f103_1 F : Y103_1) = c, (f111_1 F : Y111_1) = c, (f197_1 F : Y197_1) = c, (f160_1_l3 F : Y160_1_l3) = c; as_aux_lemma => kernel_rfl
theorem S160_1_ok : So Tryz.prog 160 S160_1 :=
  fun F o ho => sOf (fn := Tryz.f160) (c := code160) (tab_cons (S103_1_ok F _ (noS_sound enter103)) (tab_cons (S111_1_ok F _ (noS_sound enter111)) (tab_cons (S197_1_ok F _ (noS_sound enter197)) tab_nil))) ho (by rw [loops160]; exact (loopsOK_cons (by kernel_rfl) (L160_1_3 F) loopsOK_nil)) snil rnil (E160_1 F)
end
section
noncomputable def f163_1 {β : Type} (F : Nat) (a1 : ByteArray) (K0 : Bool → Option β) : Option β := K0 ((a1.size : Int) == 32)
variable [FZ]
def sh163_1 : Sh := ⟨[.lf (.str)], []⟩
abbrev Y163_1 := ByteArray → (Bool → Option Res) → Option Res
noncomputable def A163_1 (g : Y163_1) (d : sh163_1.den) (K : KF) : Option Res := g d.1.1 (fun y0 => K [.lf (.bool y0)] [])
noncomputable def S163_1 (F : Nat) (o : Summ) : Summ := mkS sh163_1 (fun d K => A163_1 (f163_1 F) d K) o
noncomputable def code163 : Code := bodyOf Tryz.f163
theorem enter163 : En Tryz.prog 163 := enO (fn := Tryz.f163)
noncomputable def T163_1 (F : Nat) : FuncId → Option Summ := tab []
noncomputable def LT163_1 (F : Nat) : Nat → Option LoopS := ltab []
theorem E163_1 (F : Nat) (d : sh163_1.den) (K : KF) : EB Tryz.prog (T163_1 F) (xw []) 6 0 (LT163_1 F) [] false Tryz.f163 sh163_1 d K = A163_1 (f163_1 F) d K := by delta A163_1 f163_1 T163_1 LT163_1;   as_aux_lemma => kernel_rfl
theorem S163_1_ok : So Tryz.prog 163 S163_1 :=
  fun F o ho => sOf (fn := Tryz.f163) (c := code163) tab_nil ho lnil snil rnil (E163_1 F)
end
section
noncomputable def f199_1 {β : Type} (F : Nat) (a1 : ByteArray) (K0 : Bool → Option β) : Option β := f163_1 F a1 (fun x1 => K0 (!x1)) 
variable [FZ]
def sh199_1 : Sh := ⟨[.lf (.str)], []⟩
abbrev Y199_1 := ByteArray → (Bool → Option Res) → Option Res
noncomputable def A199_1 (g : Y199_1) (d : sh199_1.den) (K : KF) : Option Res := g d.1.1 (fun y0 => K [.lf (.bool y0)] [])
noncomputable def S199_1 (F : Nat) (o : Summ) : Summ := mkS sh199_1 (fun d K => A199_1 (f199_1 F) d K) o
noncomputable def code199 : Code := bodyOf Tryz.f199
theorem enter199 : En Tryz.prog 199 := enO (fn := Tryz.f199)
noncomputable def T199_1 (F : Nat) : FuncId → Option Summ := tab [(163, (S163_1 F noS))]
noncomputable def LT199_1 (F : Nat) : Nat → Option LoopS := ltab []
theorem E199_1 (F : Nat) (d : sh199_1.den) (K : KF) : EB Tryz.prog (T199_1 F) (xw []) 6 0 (LT199_1 F) [] false Tryz.f199 sh199_1 d K = A199_1 (f199_1 F) d K := by delta A199_1 f199_1 T199_1 S163_1 LT199_1;  generalize (f163_1 F : Y163_1) = c; as_aux_lemma => kernel_rfl
theorem S199_1_ok : So Tryz.prog 199 S199_1 :=
  fun F o ho => sOf (fn := Tryz.f199) (c := code199) (tab_cons (S163_1_ok F _ (noS_sound enter163)) tab_nil) ho lnil snil rnil (E199_1 F)
end
section
noncomputable def f219_5041_l2 {β : Type} (F : Nat) (v1 : Int) (v3 : List ByteArray) (K0 : Int → Option β) (K1 : Option β) : Nat → Int → Option β
  | 0, _ => none
  | k + 1, v2 => cond (decide (v2 < v1)) (cond (decide ((0 : Int) ≤ v2 ∧ v2 < ((v3.length : Nat) : Int))) (cond (decide (0 + v2.toNat < v3.length)) (f199_1 F (v3.getD (0 + v2.toNat) ByteArray.empty) (fun x4 => cond x4 (K0 v2) (f219_5041_l2 F v1 v3 K0 K1 k (IntKind.i64.wrap (v2 + 1)))) ) none) none) (K1)
noncomputable def f219_5041 {β : Type} (F : Nat) (a1 : List ByteArray) (K0 : Int → Option β) : Option β := f219_5041_l2 F ((a1.length : Nat) : Int) a1 (fun x5 => K0 x5) (K0 (-1)) F 0
variable [FZ]
def sh219_5041 : Sh := ⟨[.lf (.full 0), .lf (.fn 199)], [some ⟨none, [.seq .str 0]⟩]⟩
abbrev Y219_5041 := List ByteArray → (Int → Option Res) → Option Res
noncomputable def A219_5041 (g : Y219_5041) (d : sh219_5041.den) (K : KF) : Option Res := g d.2.1.2.1 (fun y0 => K [.lf (.int .i64 y0)] [some ⟨d.2.1.1, [.seq .str 0 d.2.1.2.1]⟩])
noncomputable def S219_5041 (F : Nat) (o : Summ) : Summ := mkS sh219_5041 (fun d K => A219_5041 (f219_5041 F) d K) o
noncomputable def code219 : Code := bodyOf Tryz.f219
noncomputable def b219_0 : Code := cB (cB (cR (cL (cR (code219)))))
theorem loops219 : loopsOf code219 = [b219_0] := by kernel_rfl
theorem enter219 : En Tryz.prog 219 := enO (fn := Tryz.f219)
noncomputable def T219_5041 (F : Nat) : FuncId → Option Summ := tab [(199, (S199_1 F noS))]
def sh219_5041_l2 : Sh := ⟨[.lf (.full 0), .lf (.fn 199), .lf (.int .i64), .lf (.int .i64)], [some ⟨none, [.seq .str 0]⟩]⟩
abbrev Y219_5041_l2 := Int → List ByteArray → (Int → Option Res) → (Option Res) → Nat → Int → Option Res
noncomputable def A219_5041_l2 (g : Y219_5041_l2) (k : Nat) (d : sh219_5041_l2.den) (K : KL) : Option Res := g d.1.2.2.1 d.2.1.2.1 (fun y0 => K .ret [.tv (.lf (.int .i64 y0))] [some ⟨d.2.1.1, [.seq .str 0 d.2.1.2.1]⟩]) (K (.exit 0) [] [some ⟨d.2.1.1, [.seq .str 0 d.2.1.2.1]⟩]) k d.1.2.2.2.1
noncomputable def G219_5041_2 (F k : Nat) : LoopS := mkG sh219_5041_l2 [0, 1, 7, 8] (outT [(.exit 0, []), (.ret, [4])]) (fun d K => A219_5041_l2 (f219_5041_l2 F) k d K) []
noncomputable def LT219_5041 (F : Nat) : Nat → Option LoopS := ltab [(2, G219_5041_2 F F)]
theorem L219_5041_2 (F : Nat) : LoopOK Tryz.prog (T219_5041 F) (xw []) 19 1 (LT219_5041 F) (G219_5041_2 F F) b219_0 :=
  loopOK_of (s := sh219_5041_l2) (live := [0, 1, 7, 8]) (out := (outT [(.exit 0, []), (.ret, [4])])) (mv := []) (fun k d K => A219_5041_l2 (f219_5041_l2 F) k d K) F (fun d K => by kernel_rfl)  (fun k d K => by delta A219_5041_l2; refine (f219_5041_l2.eq_2 ..).trans ?_; delta T219_5041 S199_1 LT219_5041; generalize (G219_5041_2 F F) = c;  (try delta G219_5041_2); generalize (f199_1 F : Y199_1) = c, (f219_5041_l2 F : Y219_5041_l2) = c; as_aux_lemma => kernel_rfl)
theorem E219_5041 (F : Nat) (d : sh219_5041.den) (K : KF) : EB Tryz.prog (T219_5041 F) (xw []) 19 1 (LT219_5041 F) [] false Tryz.f219 sh219_5041 d K = A219_5041 (f219_5041 F) d K := by delta A219_5041 f219_5041 T219_5041 S199_1 LT219_5041;  delta G219_5041_2; generalize (f199_1 F : Y199_1) = c, (f219_5041_l2 F : Y219_5041_l2) = c; as_aux_lemma => kernel_rfl
theorem S219_5041_ok : So Tryz.prog 219 S219_5041 :=
  fun F o ho => sOf (fn := Tryz.f219) (c := code219) (tab_cons (S199_1_ok F _ (noS_sound enter199)) tab_nil) ho (by rw [loops219]; exact (loopsOK_cons (by kernel_rfl) (L219_5041_2 F) loopsOK_nil)) snil rnil (E219_5041 F)
end
section
noncomputable def f198_5041 {β : Type} (F : Nat) (a1 : List ByteArray) (K0 : Bool → Option β) : Option β := f219_5041 F a1 (fun x1 => K0 (decide (x1 ≥ 0))) 
variable [FZ]
def sh198_5041 : Sh := ⟨[.lf (.full 0), .lf (.fn 199)], [some ⟨none, [.seq .str 0]⟩]⟩
abbrev Y198_5041 := List ByteArray → (Bool → Option Res) → Option Res
noncomputable def A198_5041 (g : Y198_5041) (d : sh198_5041.den) (K : KF) : Option Res := g d.2.1.2.1 (fun y0 => K [.lf (.bool y0)] [some ⟨d.2.1.1, [.seq .str 0 d.2.1.2.1]⟩])
noncomputable def S198_5041 (F : Nat) (o : Summ) : Summ := mkS sh198_5041 (fun d K => A198_5041 (f198_5041 F) d K) o
noncomputable def code198 : Code := bodyOf Tryz.f198
theorem enter198 : En Tryz.prog 198 := enO (fn := Tryz.f198)
noncomputable def T198_5041 (F : Nat) : FuncId → Option Summ := tab [(219, (S219_5041 F noS))]
noncomputable def LT198_5041 (F : Nat) : Nat → Option LoopS := ltab []
theorem E198_5041 (F : Nat) (d : sh198_5041.den) (K : KF) : EB Tryz.prog (T198_5041 F) (xw []) 9 1 (LT198_5041 F) [] false Tryz.f198 sh198_5041 d K = A198_5041 (f198_5041 F) d K := by delta A198_5041 f198_5041 T198_5041 S219_5041 LT198_5041;  generalize (f219_5041 F : Y219_5041) = c; as_aux_lemma => kernel_rfl
theorem S198_5041_ok : So Tryz.prog 198 S198_5041 :=
  fun F o ho => sOf (fn := Tryz.f198) (c := code198) (tab_cons (S219_5041_ok F _ (noS_sound enter219)) tab_nil) ho lnil snil rnil (E198_5041 F)
end
section
noncomputable def f87_1 {β : Type} (F : Nat) (a1 : List ByteArray) (K0 : List ByteArray → Option β) : Option β := cond (decide (0 < a1.length)) (cond (decide ((0 + a1.length) * 16 ≤ 70368744177664)) (K0 ([] ++ a1)) none) (amb (K0 []) (cond (decide ((0 + a1.length) * 16 ≤ 70368744177664)) (K0 ([] ++ a1)) none))
variable [FZ]
def sh87_1 : Sh := ⟨[.lf (.full 0)], [some ⟨none, [.seq .str 0]⟩]⟩
abbrev Y87_1 := List ByteArray → (List ByteArray → Option Res) → Option Res
noncomputable def A87_1 (g : Y87_1) (d : sh87_1.den) (K : KF) : Option Res := g d.2.1.2.1 (fun y1 => K [.lf (.full 1)] [some ⟨d.2.1.1, [.seq .str 0 d.2.1.2.1]⟩, some ⟨false, [.seq .str 0 y1]⟩])
noncomputable def S87_1 (F : Nat) (o : Summ) : Summ := mkS sh87_1 (fun d K => A87_1 (f87_1 F) d K) o
noncomputable def code87 : Code := bodyOf Tryz.f87
theorem enter87 : En Tryz.prog 87 := enO (fn := Tryz.f87)
noncomputable def T87_1 (F : Nat) : FuncId → Option Summ := tab []
noncomputable def LT87_1 (F : Nat) : Nat → Option LoopS := ltab []
theorem E87_1 (F : Nat) (d : sh87_1.den) (K : KF) : EB Tryz.prog (T87_1 F) (xw []) 8 1 (LT87_1 F) [] false Tryz.f87 sh87_1 d K = A87_1 (f87_1 F) d K := by delta A87_1 f87_1 T87_1 LT87_1;   as_aux_lemma => kernel_rfl
theorem S87_1_ok : So Tryz.prog 87 S87_1 :=
  fun F o ho => sOf (fn := Tryz.f87) (c := code87) tab_nil ho lnil snil rnil (E87_1 F)
end
section
noncomputable def f161_1 {β : Type} (F : Nat) (a1 a2 a3 a4 : Int) (a5 : List ByteArray) (K0 : Int → Option β) (K1 : List ByteArray → Option β) : Option β := f90_1 F a1 a2 a3 a4 (fun x1 => cond (!x1) (K0 12) (f111_1 F a1 a2 a3 a4 (fun x2 => cond (((a5.length : Nat) : Int) != x2) (K0 8) (f198_5041 F a5 (fun x3 => cond x3 (K0 4) (f87_1 F a5 (fun x4 => K1 x4) )) )) )) 
variable [FZ]
def sh161_1 : Sh := ⟨[.agg [.int .i64, .int .i64, .int .i64, .int .i64], .lf (.full 0)], [some ⟨none, [.seq .str 0]⟩]⟩
abbrev Y161_1 := Int → Int → Int → Int → List ByteArray → (Int → Option Res) → (List ByteArray → Option Res) → Option Res
noncomputable def A161_1 (g : Y161_1) (d : sh161_1.den) (K : KF) : Option Res := g d.1.1.1 d.1.1.2.1 d.1.1.2.2.1 d.1.1.2.2.2.1 d.2.1.2.1 (fun y0 => K [.lf (.nilp), .lf (.int .i64 y0)] [some ⟨d.2.1.1, [.seq .str 0 d.2.1.2.1]⟩]) (fun y6 => K [.lf (.ptr 1 0), .lf (.int .i64 0)] [some ⟨d.2.1.1, [.seq .str 0 d.2.1.2.1]⟩, some ⟨false, [.int .i64 d.1.1.1, .int .i64 d.1.1.2.1, .int .i64 d.1.1.2.2.1, .int .i64 d.1.1.2.2.2.1, .full 2]⟩, some ⟨false, [.seq .str 0 y6]⟩])
noncomputable def S161_1 (F : Nat) (o : Summ) : Summ := mkS sh161_1 (fun d K => A161_1 (f161_1 F) d K) o
noncomputable def code161 : Code := bodyOf Tryz.f161
theorem enter161 : En Tryz.prog 161 := enO (fn := Tryz.f161)
noncomputable def T161_1 (F : Nat) : FuncId → Option Summ := tab [(87, (S87_1 F noS)), (90, (S90_1 F noS)), (111, (S111_1 F noS)), (198, (S198_5041 F noS))]
noncomputable def LT161_1 (F : Nat) : Nat → Option LoopS := ltab []
theorem E161_1 (F : Nat) (d : sh161_1.den) (K : KF) : EB Tryz.prog (T161_1 F) (xw []) 24 1 (LT161_1 F) [] false Tryz.f161 sh161_1 d K = A161_1 (f161_1 F) d K := by delta A161_1 f161_1 T161_1 S87_1 S90_1 S111_1 S198_5041 LT161_1;  generalize (f87_1 F : Y87_1) = c, (f90_1 F : Y90_1) = c, (f111_1 F : Y111_1) = c, (f198_5041 F : Y198_5041) = c; as_aux_lemma => kernel_rfl
theorem S161_1_ok : So Tryz.prog 161 S161_1 :=
  fun F o ho => sOf (fn := Tryz.f161) (c := code161) (tab_cons (S87_1_ok F _ (noS_sound enter87)) (tab_cons (S90_1_ok F _ (noS_sound enter90)) (tab_cons (S111_1_ok F _ (noS_sound enter111)) (tab_cons (S198_5041_ok F _ (noS_sound enter198)) tab_nil)))) ho lnil snil rnil (E161_1 F)
end
section
noncomputable def f201_1_l7 {β : Type} (F : Nat) (v5 v6 v7 v8 v10 v11 v12 v13 : Int) (K0 : List Int → Option β) : Nat → Int → List Int → Option β
  | 0, _, _ => none
  | k + 1, v9, v14 => cond (decide (v9 < v8)) (cond (decide (IntKind.i64.wrap ((IntKind.i64.wrap ((IntKind.i64.wrap (v5 - v6)) * v11)) + v9) < v7)) (cond (decide ((v14.length + 1) * 8 ≤ 70368744177664)) (f201_1_l7 F v5 v6 v7 v8 v10 v11 v12 v13 K0 k (IntKind.i64.wrap (v9 + 1)) (v14 ++ [IntKind.i64.wrap ((IntKind.i64.wrap (v6 - v7)) + (IntKind.i64.wrap ((IntKind.i64.wrap ((IntKind.i64.wrap (v5 - v6)) * v11)) + v9)))])) none) (f201_1_l7 F v5 v6 v7 v8 v10 v11 v12 v13 K0 k (IntKind.i64.wrap (v9 + 1)) v14)) (K0 v14)
noncomputable def f201_1 {β : Type} (F : Nat) (a1 a2 a3 a4 a5 : Int) (K0 : List Int → Option β) : Option β := f217_1 F a1 a2 a3 a4 a5 (fun x1 x2 x3 => cond (!x3) (K0 []) (cond (x1 == 0) (K0 []) (f164_1 F a1 a2 a3 a4 (fun x4 => cond (decide ((0 : Int) ≤ IntKind.i64.wrap (x1 - 1) ∧ IntKind.i64.wrap (x1 - 1) < ((x4.length : Nat) : Int))) (cond (decide (0 + ((IntKind.i64.wrap (x1 - 1)).toNat) < x4.length)) (f201_1_l7 F a5 x2 (x4.getD (0 + ((IntKind.i64.wrap (x1 - 1)).toNat)) 0) a2 a1 a2 a3 a4 (fun x15 => K0 x15) F 0 []) none) none) ))) 
variable [FZ]
def sh201_1 : Sh := ⟨[.agg [.int .i64, .int .i64, .int .i64, .int .i64], .lf (.int .i64)], []⟩
abbrev Y201_1 := Int → Int → Int → Int → Int → (List Int → Option Res) → Option Res
noncomputable def A201_1 (g : Y201_1) (d : sh201_1.den) (K : KF) : Option Res := g d.1.1.1 d.1.1.2.1 d.1.1.2.2.1 d.1.1.2.2.2.1 d.1.2.1 (fun y0 => K [.lf (.full 0)] [some ⟨false, [.seq (.int .i64) 0 y0]⟩])
noncomputable def S201_1 (F : Nat) (o : Summ) : Summ := mkS sh201_1 (fun d K => A201_1 (f201_1 F) d K) o
noncomputable def code201 : Code := bodyOf Tryz.f201
noncomputable def b201_0 : Code := cB (cB (cR (cL (cR (cR (cR (cR (cR (code201)))))))))
theorem loops201 : loopsOf code201 = [b201_0] := by kernel_rfl
theorem enter201 : En Tryz.prog 201 := enO (fn := Tryz.f201)
noncomputable def T201_1 (F : Nat) : FuncId → Option Summ := tab [(164, (S164_1 F noS)), (217, (S217_1 F noS))]
def sh201_1_l7 : Sh := ⟨[.lf (.int .i64), .lf (.ptr 0 0), .lf (.int .i64), .lf (.int .i64), .lf (.full 1), .lf (.int .i64), .lf (.int .i64)], [some ⟨some false, [.int .i64, .int .i64, .int .i64, .int .i64]⟩, some ⟨some false, [.seq (.int .i64) 0]⟩]⟩
abbrev Y201_1_l7 := Int → Int → Int → Int → Int → Int → Int → Int → (List Int → Option Res) → Nat → Int → List Int → Option Res
noncomputable def A201_1_l7 (g : Y201_1_l7) (k : Nat) (d : sh201_1_l7.den) (K : KL) : Option Res := g d.1.1 d.1.2.2.1 d.1.2.2.2.1 d.1.2.2.2.2.2.1 d.2.1.2.1 d.2.1.2.2.1 d.2.1.2.2.2.1 d.2.1.2.2.2.2.1 (fun y4 => K (.exit 0) [.tv (.lf (.full 1))] [some ⟨false, [.int .i64 d.2.1.2.1, .int .i64 d.2.1.2.2.1, .int .i64 d.2.1.2.2.2.1, .int .i64 d.2.1.2.2.2.2.1]⟩, some ⟨false, [.seq (.int .i64) 0 y4]⟩]) k d.1.2.2.2.2.2.2.1 d.2.2.1.2.1
noncomputable def G201_1_7 (F k : Nat) : LoopS := mkG sh201_1_l7 [1, 2, 6, 8, 9, 32, 33] (outT [(.exit 0, [9])]) (fun d K => A201_1_l7 (f201_1_l7 F) k d K) []
noncomputable def LT201_1 (F : Nat) : Nat → Option LoopS := ltab [(7, G201_1_7 F F)]
theorem L201_1_7 (F : Nat) : LoopOK Tryz.prog (T201_1 F) (xw []) 57 0 (LT201_1 F) (G201_1_7 F F) b201_0 :=
  loopOK_of (s := sh201_1_l7) (live := [1, 2, 6, 8, 9, 32, 33]) (out := (outT [(.exit 0, [9])])) (mv := []) (fun k d K => A201_1_l7 (f201_1_l7 F) k d K) F (fun d K => by kernel_rfl)  (fun k d K => by delta A201_1_l7; refine (f201_1_l7.eq_2 ..).trans ?_; delta T201_1 S164_1 S217_1 LT201_1; generalize (G201_1_7 F F) = c;  (try delta G201_1_7); generalize (f164_1 F : Y164_1) = c, (f217_1 F : Y217_1) = c, (f201_1_l7 F : Y201_1_l7) = c; as_aux_lemma => kernel_rfl)
theorem E201_1 (F : Nat) (d : sh201_1.den) (K : KF) : EB Tryz.prog (T201_1 F) (xw []) 57 0 (LT201_1 F) [] false Tryz.f201 sh201_1 d K = A201_1 (f201_1 F) d K := by delta A201_1 f201_1 T201_1 S164_1 S217_1 LT201_1;  delta G201_1_7; generalize (f164_1 F : Y164_1) = c, (f217_1 F : Y217_1) = c, (f201_1_l7 F : Y201_1_l7) = c; as_aux_lemma => kernel_rfl
theorem S201_1_ok : So Tryz.prog 201 S201_1 :=
  fun F o ho => sOf (fn := Tryz.f201) (c := code201) (tab_cons (S164_1_ok F _ (noS_sound enter164)) (tab_cons (S217_1_ok F _ (noS_sound enter217)) tab_nil)) ho (by rw [loops201]; exact (loopsOK_cons (by kernel_rfl) (L201_1_7 F) loopsOK_nil)) snil rnil (E201_1 F)
end
section
noncomputable def f202_1 {β : Type} (F : Nat) (a1 : List ByteArray) (K0 : ByteArray → Option β) : Option β := f218_1 F 1 a1 (fun x1 => K0 x1) 
variable [FZ]
def sh202_1 : Sh := ⟨[.lf (.full 0)], [some ⟨none, [.seq .str 0]⟩]⟩
abbrev Y202_1 := List ByteArray → (ByteArray → Option Res) → Option Res
noncomputable def A202_1 (g : Y202_1) (d : sh202_1.den) (K : KF) : Option Res := g d.2.1.2.1 (fun y0 => K [.lf (.str y0)] [some ⟨d.2.1.1, [.seq .str 0 d.2.1.2.1]⟩])
noncomputable def S202_1 (F : Nat) (o : Summ) : Summ := mkS sh202_1 (fun d K => A202_1 (f202_1 F) d K) o
noncomputable def code202 : Code := bodyOf Tryz.f202
theorem enter202 : En Tryz.prog 202 := enO (fn := Tryz.f202)
noncomputable def T202_1 (F : Nat) : FuncId → Option Summ := tab [(218, (S218_1 F noS))]
noncomputable def LT202_1 (F : Nat) : Nat → Option LoopS := ltab []
theorem E202_1 (F : Nat) (d : sh202_1.den) (K : KF) : EB Tryz.prog (T202_1 F) (xw []) 5 1 (LT202_1 F) [] false Tryz.f202 sh202_1 d K = A202_1 (f202_1 F) d K := by delta A202_1 f202_1 T202_1 S218_1 LT202_1;  generalize (f218_1 F : Y218_1) = c; as_aux_lemma => kernel_rfl
theorem S202_1_ok : So Tryz.prog 202 S202_1 :=
  fun F o ho => sOf (fn := Tryz.f202) (c := code202) (tab_cons (S218_1_ok F _ (noS_sound enter218)) tab_nil) ho lnil snil rnil (E202_1 F)
end
section
noncomputable def f200_1_l3 {β : Type} (F : Nat) (v2 v4 v5 v6 v7 : Int) (v8 : List ByteArray) (v10 : List Int) (K0 : List ByteArray → Option β) : Nat → Int → List ByteArray → Option β
  | 0, _, _ => none
  | k + 1, v3, v9 => cond (decide (v3 < v2)) (cond (decide ((0 : Int) ≤ v3 ∧ v3 < ((v10.length : Nat) : Int))) (cond (decide (0 + v3.toNat < v10.length)) (cond (decide ((0 : Int) ≤ v10.getD (0 + v3.toNat) 0 ∧ v10.getD (0 + v3.toNat) 0 < ((v8.length : Nat) : Int))) (cond (decide (0 + ((v10.getD (0 + v3.toNat) 0).toNat) < v8.length)) (cond (decide ((v9.length + 1) * 16 ≤ 70368744177664)) (f200_1_l3 F v2 v4 v5 v6 v7 v8 v10 K0 k (IntKind.i64.wrap (v3 + 1)) (v9 ++ [v8.getD (0 + ((v10.getD (0 + v3.toNat) 0).toNat)) ByteArray.empty])) none) none) none) none) none) (K0 v9)
noncomputable def f200_1 {β : Type} (F : Nat) (a1 a2 a3 a4 a5 : Int) (a6 : List ByteArray) (K0 : ByteArray → Option β) : Option β := f201_1 F a2 a3 a4 a5 a1 (fun x1 => f200_1_l3 F ((x1.length : Nat) : Int) a2 a3 a4 a5 a6 x1 (fun x11 => f202_1 F x11 (fun x12 => K0 x12) ) F 0 []) 
variable [FZ]
def sh200_1 : Sh := ⟨[.lf (.ptr 0 0), .lf (.int .i64)], [some ⟨none, [.int .i64, .int .i64, .int .i64, .int .i64, .full 1]⟩, some ⟨none, [.seq .str 0]⟩]⟩
abbrev Y200_1 := Int → Int → Int → Int → Int → List ByteArray → (ByteArray → Option Res) → Option Res
noncomputable def A200_1 (g : Y200_1) (d : sh200_1.den) (K : KF) : Option Res := g d.1.2.1 d.2.1.2.1 d.2.1.2.2.1 d.2.1.2.2.2.1 d.2.1.2.2.2.2.1 d.2.2.1.2.1 (fun y0 => K [.lf (.str y0)] [some ⟨d.2.1.1, [.int .i64 d.2.1.2.1, .int .i64 d.2.1.2.2.1, .int .i64 d.2.1.2.2.2.1, .int .i64 d.2.1.2.2.2.2.1, .full 1]⟩, some ⟨d.2.2.1.1, [.seq .str 0 d.2.2.1.2.1]⟩])
noncomputable def S200_1 (F : Nat) (o : Summ) : Summ := mkS sh200_1 (fun d K => A200_1 (f200_1 F) d K) o
noncomputable def code200 : Code := bodyOf Tryz.f200
noncomputable def b200_0 : Code := cB (cB (cR (cL (cR (cR (code200))))))
theorem loops200 : loopsOf code200 = [b200_0] := by kernel_rfl
theorem enter200 : En Tryz.prog 200 := enO (fn := Tryz.f200)
noncomputable def T200_1 (F : Nat) : FuncId → Option Summ := tab [(201, (S201_1 F noS)), (202, (S202_1 F noS))]
def sh200_1_l3 : Sh := ⟨[.lf (.ptr 0 0), .lf (.full 2), .lf (.full 3), .lf (.int .i64), .lf (.int .i64)], [some ⟨none, [.int .i64, .int .i64, .int .i64, .int .i64, .full 1]⟩, some ⟨none, [.seq .str 0]⟩, some ⟨some false, [.seq .str 0]⟩, some ⟨some false, [.seq (.int .i64) 0]⟩]⟩
abbrev Y200_1_l3 := Int → Int → Int → Int → Int → List ByteArray → List Int → (List ByteArray → Option Res) → Nat → Int → List ByteArray → Option Res
noncomputable def A200_1_l3 (g : Y200_1_l3) (k : Nat) (d : sh200_1_l3.den) (K : KL) : Option Res := g d.1.2.2.2.1 d.2.1.2.1 d.2.1.2.2.1 d.2.1.2.2.2.1 d.2.1.2.2.2.2.1 d.2.2.1.2.1 d.2.2.2.2.1.2.1 (fun y5 => K (.exit 0) [.tv (.lf (.full 2))] [some ⟨d.2.1.1, [.int .i64 d.2.1.2.1, .int .i64 d.2.1.2.2.1, .int .i64 d.2.1.2.2.2.1, .int .i64 d.2.1.2.2.2.2.1, .full 1]⟩, some ⟨d.2.2.1.1, [.seq .str 0 d.2.2.1.2.1]⟩, some ⟨false, [.seq .str 0 y5]⟩, some ⟨false, [.seq (.int .i64) 0 d.2.2.2.2.1.2.1]⟩]) k d.1.2.2.2.2.1 d.2.2.2.1.2.1
noncomputable def G200_1_3 (F k : Nat) : LoopS := mkG sh200_1_l3 [0, 5, 13, 14, 15] (outT [(.exit 0, [5])]) (fun d K => A200_1_l3 (f200_1_l3 F) k d K) []
noncomputable def LT200_1 (F : Nat) : Nat → Option LoopS := ltab [(3, G200_1_3 F F)]
theorem L200_1_3 (F : Nat) : LoopOK Tryz.prog (T200_1 F) (xw []) 32 2 (LT200_1 F) (G200_1_3 F F) b200_0 :=
  loopOK_of (s := sh200_1_l3) (live := [0, 5, 13, 14, 15]) (out := (outT [(.exit 0, [5])])) (mv := []) (fun k d K => A200_1_l3 (f200_1_l3 F) k d K) F (fun d K => by kernel_rfl)  (fun k d K => by delta A200_1_l3; refine (f200_1_l3.eq_2 ..).trans ?_; delta T200_1 S201_1 S202_1 LT200_1; generalize (G200_1_3 F F) = c;  (try delta G200_1_3); generalize (f201_1 F : Y201_1) = c, (f202_1 F : Y202_1) = c, (f200_1_l3 F : Y200_1_l3) = c; as_aux_lemma => kernel_rfl)
theorem E200_1 (F : Nat) (d : sh200_1.den) (K : KF) : EB Tryz.prog (T200_1 F) (xw []) 32 2 (LT200_1 F) [] false Tryz.f200 sh200_1 d K = A200_1 (f200_1 F) d K := by delta A200_1 f200_1 T200_1 S201_1 S202_1 LT200_1;  delta G200_1_3; generalize (f201_1 F : Y201_1) = c, (f202_1 F : Y202_1) = c, (f200_1_l3 F : Y200_1_l3) = c; as_aux_lemma => kernel_rfl
theorem S200_1_ok : So Tryz.prog 200 S200_1 :=
  fun F o ho => sOf (fn := Tryz.f200) (c := code200) (tab_cons (S201_1_ok F _ (noS_sound enter201)) (tab_cons (S202_1_ok F _ (noS_sound enter202)) tab_nil)) ho (by rw [loops200]; exact (loopsOK_cons (by kernel_rfl) (L200_1_3 F) loopsOK_nil)) snil rnil (E200_1 F)
end
section
noncomputable def f162_1_l9 {β : Type} (F : Nat) (v4 v5 : Nat) (v6 v8 v9 v10 v11 : Int) (v13 : List Int) (K0 : List ByteArray → Option β) : Nat → Int → List ByteArray → Option β
  | 0, _, _ => none
  | k + 1, v7, v12 => cond (decide (v7 < v6)) (cond (decide ((0 : Int) ≤ v7 ∧ v7 < ((v5 : Nat) : Int))) (cond (decide (v4 + v7.toNat < v13.length)) (f200_1 F (v13.getD (v4 + v7.toNat) 0) v8 v9 v10 v11 v12 (fun x14 => cond (decide ((0 : Int) ≤ v13.getD (v4 + v7.toNat) 0 ∧ v13.getD (v4 + v7.toNat) 0 < ((v12.length : Nat) : Int))) (cond (decide (0 + ((v13.getD (v4 + v7.toNat) 0).toNat) < v12.length)) (f162_1_l9 F v4 v5 v6 v8 v9 v10 v11 v13 K0 k (IntKind.i64.wrap (v7 + 1)) (v12.set (0 + ((v13.getD (v4 + v7.toNat) 0).toNat)) x14)) none) none) ) none) none) (K0 v12)
noncomputable def f162_1 {β : Type} (F : Nat) (a1 : Int) (a2 : ByteArray) (a3 a4 a5 a6 : Int) (a7 : List ByteArray) (K0 : Int → List ByteArray → Option β) : Option β := cond (decide (a1 < 0)) (K0 3 a7) (cond (decide (a1 ≥ a3)) (K0 3 a7) (f85_1 F a2 (fun x1 => cond (!x1) (K0 4 a7) (f197_1 F a2 (fun x2 => cond (decide ((0 : Int) ≤ a1 ∧ a1 < ((a7.length : Nat) : Int))) (cond (decide (0 + a1.toNat < a7.length)) (f159_1 F a3 a4 a5 a6 a1 (fun x3 => cond (decide ((0 : Int) ≤ (1 : Int) ∧ (1 : Int) ≤ ((x3.length : Nat) : Int) ∧ ((x3.length : Nat) : Int) ≤ ((x3.length : Nat) : Int))) (f162_1_l9 F 1 ((((x3.length : Nat) : Int) - 1).toNat) (((((x3.length : Nat) : Int) - 1).toNat : Nat) : Int) a3 a4 a5 a6 x3 (fun x15 => K0 0 x15) F 0 (a7.set (0 + a1.toNat) x2)) none) ) none) none) )) ))
variable [FZ]
def sh162_1 : Sh := ⟨[.lf (.ptr 0 0), .lf (.int .i64), .lf (.str)], [some ⟨none, [.int .i64, .int .i64, .int .i64, .int .i64, .full 1]⟩, some ⟨some false, [.seq .str 0]⟩]⟩
abbrev Y162_1 := Int → ByteArray → Int → Int → Int → Int → List ByteArray → (Int → List ByteArray → Option Res) → Option Res
noncomputable def A162_1 (g : Y162_1) (d : sh162_1.den) (K : KF) : Option Res := g d.1.2.1 d.1.2.2.1 d.2.1.2.1 d.2.1.2.2.1 d.2.1.2.2.2.1 d.2.1.2.2.2.2.1 d.2.2.1.2.1 (fun y0 y5 => K [.lf (.int .i64 y0)] [some ⟨d.2.1.1, [.int .i64 d.2.1.2.1, .int .i64 d.2.1.2.2.1, .int .i64 d.2.1.2.2.2.1, .int .i64 d.2.1.2.2.2.2.1, .full 1]⟩, some ⟨false, [.seq .str 0 y5]⟩])
noncomputable def S162_1 (F : Nat) (o : Summ) : Summ := mkS sh162_1 (fun d K => A162_1 (f162_1 F) d K) o
noncomputable def code162 : Code := bodyOf Tryz.f162
noncomputable def b162_0 : Code := cB (cB (cR (cL (cR (cR (cR (code162)))))))
theorem loops162 : loopsOf code162 = [b162_0] := by kernel_rfl
theorem enter162 : En Tryz.prog 162 := enO (fn := Tryz.f162)
noncomputable def T162_1 (F : Nat) : FuncId → Option Summ := tab [(85, (S85_1 F noS)), (159, (S159_1 F noS)), (197, (S197_1 F noS)), (200, (S200_1 F noS))]
def sh162_1_l9 : Sh := ⟨[.lf (.ptr 0 0), .lf (.slice 2 0), .lf (.int .i64), .lf (.int .i64)], [some ⟨none, [.int .i64, .int .i64, .int .i64, .int .i64, .full 1]⟩, some ⟨some false, [.seq .str 0]⟩, some ⟨some false, [.seq (.int .i64) 0]⟩]⟩
abbrev Y162_1_l9 := Nat → Nat → Int → Int → Int → Int → Int → List Int → (List ByteArray → Option Res) → Nat → Int → List ByteArray → Option Res
noncomputable def A162_1_l9 (g : Y162_1_l9) (k : Nat) (d : sh162_1_l9.den) (K : KL) : Option Res := g d.1.2.1.1 d.1.2.1.2 d.1.2.2.1 d.2.1.2.1 d.2.1.2.2.1 d.2.1.2.2.2.1 d.2.1.2.2.2.2.1 d.2.2.2.1.2.1 (fun y4 => K (.exit 1) [] [some ⟨d.2.1.1, [.int .i64 d.2.1.2.1, .int .i64 d.2.1.2.2.1, .int .i64 d.2.1.2.2.2.1, .int .i64 d.2.1.2.2.2.2.1, .full 1]⟩, some ⟨false, [.seq .str 0 y4]⟩, some ⟨false, [.seq (.int .i64) 0 d.2.2.2.1.2.1]⟩]) k d.1.2.2.2.1 d.2.2.1.2.1
noncomputable def G162_1_9 (F k : Nat) : LoopS := mkG sh162_1_l9 [0, 42, 43, 44] (outT [(.exit 1, [])]) (fun d K => A162_1_l9 (f162_1_l9 F) k d K) []
noncomputable def LT162_1 (F : Nat) : Nat → Option LoopS := ltab [(9, G162_1_9 F F)]
theorem L162_1_9 (F : Nat) : LoopOK Tryz.prog (T162_1 F) (xw []) 58 2 (LT162_1 F) (G162_1_9 F F) b162_0 :=
  loopOK_of (s := sh162_1_l9) (live := [0, 42, 43, 44]) (out := (outT [(.exit 1, [])])) (mv := []) (fun k d K => A162_1_l9 (f162_1_l9 F) k d K) F (fun d K => by kernel_rfl)  (fun k d K => by delta A162_1_l9; refine (f162_1_l9.eq_2 ..).trans ?_; delta T162_1 S85_1 S159_1 S197_1 S200_1 LT162_1; generalize (G162_1_9 F F) = c;  (try delta G162_1_9); generalize (f85_1 F : Y85_1) = c, (f159_1 F : Y159_1) = c, (f197_1 F : Y197_1) = c, (f200_1 F : Y200_1) = c, (f162_1_l9 F : Y162_1_l9) = c; as_aux_lemma => kernel_rfl)
theorem E162_1 (F : Nat) (d : sh162_1.den) (K : KF) : EB Tryz.prog (T162_1 F) (xw []) 58 2 (LT162_1 F) [] false Tryz.f162 sh162_1 d K = A162_1 (f162_1 F) d K := by delta A162_1 f162_1 T162_1 S85_1 S159_1 S197_1 S200_1 LT162_1;  delta G162_1_9; generalize (f85_1 F : Y85_1) = c, (f159_1 F : Y159_1) = c, (f197_1 F : Y197_1) = c, (f200_1 F : Y200_1) = c, (f162_1_l9 F : Y162_1_l9) = c; as_aux_lemma => kernel_rfl
theorem S162_1_ok : So Tryz.prog 162 S162_1 :=
  fun F o ho => sOf (fn := Tryz.f162) (c := code162) (tab_cons (S85_1_ok F _ (noS_sound enter85)) (tab_cons (S159_1_ok F _ (noS_sound enter159)) (tab_cons (S197_1_ok F _ (noS_sound enter197)) (tab_cons (S200_1_ok F _ (noS_sound enter200)) tab_nil)))) ho (by rw [loops162]; exact (loopsOK_cons (by kernel_rfl) (L162_1_9 F) loopsOK_nil)) snil rnil (E162_1 F)
end
section
noncomputable def f162_1385 {β : Type} (F : Nat) (a1 : Int) (a2 : ByteArray) (K0 : Option β) : Option β := K0
variable [FZ]
def sh162_1385 : Sh := ⟨[.lf (.nilp), .lf (.int .i64), .lf (.str)], []⟩
abbrev Y162_1385 := Int → ByteArray → (Option Res) → Option Res
noncomputable def A162_1385 (g : Y162_1385) (d : sh162_1385.den) (K : KF) : Option Res := g d.1.2.1 d.1.2.2.1 (K [.lf (.int .i64 1)] [])
noncomputable def S162_1385 (F : Nat) (o : Summ) : Summ := mkS sh162_1385 (fun d K => A162_1385 (f162_1385 F) d K) o
noncomputable def T162_1385 (F : Nat) : FuncId → Option Summ := tab []
noncomputable def LT162_1385 (F : Nat) : Nat → Option LoopS := ltab []
theorem E162_1385 (F : Nat) (d : sh162_1385.den) (K : KF) : EB Tryz.prog (T162_1385 F) (xw []) 58 0 (LT162_1385 F) [] false Tryz.f162 sh162_1385 d K = A162_1385 (f162_1385 F) d K := by delta A162_1385 f162_1385 T162_1385 LT162_1385;   as_aux_lemma => kernel_rfl
theorem S162_1385_ok : So Tryz.prog 162 S162_1385 :=
  fun F o ho => sOf (fn := Tryz.f162) (c := code162) tab_nil ho (by rw [loops162]; exact (loopsOK_skip (by kernel_rfl) loopsOK_nil)) snil rnil (E162_1385 F)
end
section
noncomputable def f107_1_l8 {β : Type} (F : Nat) (v4 v6 : Int) (v7 : Bool) (v8 : Int) (v9 : List ByteArray) (v10 : List (Int × ByteArray)) (v11 v12 v13 v14 : Int) (v15 : List Bool) (K0 : Int → Option β) (K1 : Option β) : Nat → Int → Option β
  | 0, _ => none
  | k + 1, v5 => cond (decide (v5 < v4)) (cond (decide ((0 : Int) ≤ v5 ∧ v5 < 256)) (cond (decide (v5.toNat < v15.length)) (cond (!(v15.getD v5.toNat false)) (f107_1_l8 F v4 v6 v7 v8 v9 v10 v11 v12 v13 v14 v15 K0 K1 k (IntKind.i64.wrap (v5 + 1))) (f129_1 F v11 v12 v13 v14 v5 (fun x16 => f37_1 F x16 v6 v7 v8 v9 v10 (fun x17 x18 => cond (x18 != 0) (K0 x18) (f162_1385 F v5 x17 (K0 1) )) ) )) none) none) (K1)
noncomputable def f107_1_l8_2 {β : Type} (F : Nat) (v21 v23 : Int) (v24 : Bool) (v25 : Int) (v26 : List ByteArray) (v27 : List (Int × ByteArray)) (v28 v29 v30 v31 : Int) (v32 : List Bool) (v33 v34 v35 v36 : Int) (K0 : Int → List ByteArray → Option β) (K1 : List ByteArray → Option β) : Nat → Int → List ByteArray → Option β
  | 0, _, _ => none
  | k + 1, v22, v37 => cond (decide (v22 < v21)) (cond (decide ((0 : Int) ≤ v22 ∧ v22 < 256)) (cond (decide (v22.toNat < v32.length)) (cond (!(v32.getD v22.toNat false)) (f107_1_l8_2 F v21 v23 v24 v25 v26 v27 v28 v29 v30 v31 v32 v33 v34 v35 v36 K0 K1 k (IntKind.i64.wrap (v22 + 1)) v37) (f129_1 F v28 v29 v30 v31 v22 (fun x38 => f37_1 F x38 v23 v24 v25 v26 v27 (fun x39 x40 => cond (x40 != 0) (K0 x40 v37) (f162_1 F v22 x39 v33 v34 v35 v36 v37 (fun x41 x42 => cond (x41 != 0) (K0 x41 x42) (f107_1_l8_2 F v21 v23 v24 v25 v26 v27 v28 v29 v30 v31 v32 v33 v34 v35 v36 K0 K1 k (IntKind.i64.wrap (v22 + 1)) x42)) )) ) )) none) none) (K1 v37)
noncomputable def f107_1 {β : Type} (F : Nat) (a1 a2 a3 a4 : Int) (a5 : List Bool) (a6 : Int) (a7 : Bool) (a8 : Int) (a9 : List ByteArray) (a10 : List (Int × ByteArray)) (K0 : Int → Option β) (K1 : List ByteArray → Option β) : Option β := f160_1 F a1 a2 a3 a4 a5 a6 a7 a8 a9 a10 (fun x1 x2 => cond (x1 != 0) (K0 x1) (f161_1 F a1 a2 a3 a4 x2 (fun x3 => cond (x3 != 0) (K0 x3) (f107_1_l8 F a1 a6 a7 a8 a9 a10 a1 a2 a3 a4 a5 (fun x19 => K0 x19) (K0 0) F 0)) (fun x20 => f107_1_l8_2 F a1 a6 a7 a8 a9 a10 a1 a2 a3 a4 a5 a1 a2 a3 a4 (fun x43 x44 => K0 x43) (fun x45 => K1 x45) F 0 x20) )) 
variable [FZ]
def sh107_1 : Sh := ⟨[.lf (.ptr 0 0), .agg [.int .i64, .int .i64, .int .i64, .int .i64], .agg [.seq .bool 256]], [some ⟨none, [.full 1, .full 2, .int .i64, .bool, .int .i64]⟩, some ⟨none, [.seq .str 0]⟩, some ⟨none, [.seq (.pair (.int .i64) .str) 0]⟩]⟩
abbrev Y107_1 := Int → Int → Int → Int → List Bool → Int → Bool → Int → List ByteArray → List (Int × ByteArray) → (Int → Option Res) → (List ByteArray → Option Res) → Option Res
noncomputable def A107_1 (g : Y107_1) (d : sh107_1.den) (K : KF) : Option Res := g d.1.2.1.1 d.1.2.1.2.1 d.1.2.1.2.2.1 d.1.2.1.2.2.2.1 d.1.2.2.1.1 d.2.1.2.2.2.1 d.2.1.2.2.2.2.1 d.2.1.2.2.2.2.2.1 d.2.2.1.2.1 d.2.2.2.1.2.1 (fun y0 => K [.lf (.nilp), .lf (.int .i64 y0)] [some ⟨d.2.1.1, [.full 1, .full 2, .int .i64 d.2.1.2.2.2.1, .bool d.2.1.2.2.2.2.1, .int .i64 d.2.1.2.2.2.2.2.1]⟩, some ⟨d.2.2.1.1, [.seq .str 0 d.2.2.1.2.1]⟩, some ⟨d.2.2.2.1.1, [.seq (.pair (.int .i64) .str) 0 d.2.2.2.1.2.1]⟩]) (fun y10 => K [.lf (.ptr 3 0), .lf (.int .i64 0)] [some ⟨d.2.1.1, [.full 1, .full 2, .int .i64 d.2.1.2.2.2.1, .bool d.2.1.2.2.2.2.1, .int .i64 d.2.1.2.2.2.2.2.1]⟩, some ⟨d.2.2.1.1, [.seq .str 0 d.2.2.1.2.1]⟩, some ⟨d.2.2.2.1.1, [.seq (.pair (.int .i64) .str) 0 d.2.2.2.1.2.1]⟩, some ⟨false, [.int .i64 d.1.2.1.1, .int .i64 d.1.2.1.2.1, .int .i64 d.1.2.1.2.2.1, .int .i64 d.1.2.1.2.2.2.1, .full 4]⟩, some ⟨false, [.seq .str 0 y10]⟩])
noncomputable def S107_1 (F : Nat) (o : Summ) : Summ := mkS sh107_1 (fun d K => A107_1 (f107_1 F) d K) o
noncomputable def code107 : Code := bodyOf Tryz.f107
noncomputable def b107_0 : Code := cB (cB (cR (cL (cR (cR (cR (cR (cR (code107)))))))))
theorem loops107 : loopsOf code107 = [b107_0] := by kernel_rfl
theorem enter107 : En Tryz.prog 107 := enO (fn := Tryz.f107)
noncomputable def T107_1 (F : Nat) : FuncId → Option Summ := tab [(37, (S37_1 F noS)), (129, (S129_1 F noS)), (160, (S160_1 F noS)), (161, (S161_1 F noS)), (162, (S162_1 F (S162_1385 F noS)))]
def sh107_1_l8 : Sh := ⟨[.lf (.ptr 0 0), .lf (.ptr 3 0), .lf (.ptr 4 0), .lf (.nilp), .lf (.int .i64), .lf (.int .i64)], [some ⟨none, [.full 1, .full 2, .int .i64, .bool, .int .i64]⟩, some ⟨none, [.seq .str 0]⟩, some ⟨none, [.seq (.pair (.int .i64) .str) 0]⟩, some ⟨some false, [.int .i64, .int .i64, .int .i64, .int .i64]⟩, some ⟨some false, [.seq .bool 256]⟩]⟩
abbrev Y107_1_l8 := Int → Int → Bool → Int → List ByteArray → List (Int × ByteArray) → Int → Int → Int → Int → List Bool → (Int → Option Res) → (Option Res) → Nat → Int → Option Res
noncomputable def A107_1_l8 (g : Y107_1_l8) (k : Nat) (d : sh107_1_l8.den) (K : KL) : Option Res := g d.1.2.2.2.2.1 d.2.1.2.2.2.1 d.2.1.2.2.2.2.1 d.2.1.2.2.2.2.2.1 d.2.2.1.2.1 d.2.2.2.1.2.1 d.2.2.2.2.1.2.1 d.2.2.2.2.1.2.2.1 d.2.2.2.2.1.2.2.2.1 d.2.2.2.2.1.2.2.2.2.1 d.2.2.2.2.2.1.2.1 (fun y0 => K .ret [.tv (.lf (.nilp)), .tv (.lf (.int .i64 y0))] [some ⟨d.2.1.1, [.full 1, .full 2, .int .i64 d.2.1.2.2.2.1, .bool d.2.1.2.2.2.2.1, .int .i64 d.2.1.2.2.2.2.2.1]⟩, some ⟨d.2.2.1.1, [.seq .str 0 d.2.2.1.2.1]⟩, some ⟨d.2.2.2.1.1, [.seq (.pair (.int .i64) .str) 0 d.2.2.2.1.2.1]⟩, some ⟨false, [.int .i64 d.2.2.2.2.1.2.1, .int .i64 d.2.2.2.2.1.2.2.1, .int .i64 d.2.2.2.2.1.2.2.2.1, .int .i64 d.2.2.2.2.1.2.2.2.2.1]⟩, some ⟨false, [.seq .bool 256 d.2.2.2.2.2.1.2.1]⟩]) (K (.exit 0) [.tv (.lf (.nilp))] [some ⟨d.2.1.1, [.full 1, .full 2, .int .i64 d.2.1.2.2.2.1, .bool d.2.1.2.2.2.2.1, .int .i64 d.2.1.2.2.2.2.2.1]⟩, some ⟨d.2.2.1.1, [.seq .str 0 d.2.2.1.2.1]⟩, some ⟨d.2.2.2.1.1, [.seq (.pair (.int .i64) .str) 0 d.2.2.2.1.2.1]⟩, some ⟨false, [.int .i64 d.2.2.2.2.1.2.1, .int .i64 d.2.2.2.2.1.2.2.1, .int .i64 d.2.2.2.2.1.2.2.2.1, .int .i64 d.2.2.2.2.1.2.2.2.2.1]⟩, some ⟨false, [.seq .bool 256 d.2.2.2.2.2.1.2.1]⟩]) k d.1.2.2.2.2.2.1
def sh107_1_l8_2 : Sh := ⟨[.lf (.ptr 0 0), .lf (.ptr 3 0), .lf (.ptr 4 0), .lf (.ptr 5 0), .lf (.int .i64), .lf (.int .i64)], [some ⟨none, [.full 1, .full 2, .int .i64, .bool, .int .i64]⟩, some ⟨none, [.seq .str 0]⟩, some ⟨none, [.seq (.pair (.int .i64) .str) 0]⟩, some ⟨some false, [.int .i64, .int .i64, .int .i64, .int .i64]⟩, some ⟨some false, [.seq .bool 256]⟩, some ⟨some false, [.int .i64, .int .i64, .int .i64, .int .i64, .full 6]⟩, some ⟨some false, [.seq .str 0]⟩]⟩
abbrev Y107_1_l8_2 := Int → Int → Bool → Int → List ByteArray → List (Int × ByteArray) → Int → Int → Int → Int → List Bool → Int → Int → Int → Int → (Int → List ByteArray → Option Res) → (List ByteArray → Option Res) → Nat → Int → List ByteArray → Option Res
noncomputable def A107_1_l8_2 (g : Y107_1_l8_2) (k : Nat) (d : sh107_1_l8_2.den) (K : KL) : Option Res := g d.1.2.2.2.2.1 d.2.1.2.2.2.1 d.2.1.2.2.2.2.1 d.2.1.2.2.2.2.2.1 d.2.2.1.2.1 d.2.2.2.1.2.1 d.2.2.2.2.1.2.1 d.2.2.2.2.1.2.2.1 d.2.2.2.2.1.2.2.2.1 d.2.2.2.2.1.2.2.2.2.1 d.2.2.2.2.2.1.2.1 d.2.2.2.2.2.2.1.2.1 d.2.2.2.2.2.2.1.2.2.1 d.2.2.2.2.2.2.1.2.2.2.1 d.2.2.2.2.2.2.1.2.2.2.2.1 (fun y0 y15 => K .ret [.tv (.lf (.nilp)), .tv (.lf (.int .i64 y0))] [some ⟨d.2.1.1, [.full 1, .full 2, .int .i64 d.2.1.2.2.2.1, .bool d.2.1.2.2.2.2.1, .int .i64 d.2.1.2.2.2.2.2.1]⟩, some ⟨d.2.2.1.1, [.seq .str 0 d.2.2.1.2.1]⟩, some ⟨d.2.2.2.1.1, [.seq (.pair (.int .i64) .str) 0 d.2.2.2.1.2.1]⟩, some ⟨false, [.int .i64 d.2.2.2.2.1.2.1, .int .i64 d.2.2.2.2.1.2.2.1, .int .i64 d.2.2.2.2.1.2.2.2.1, .int .i64 d.2.2.2.2.1.2.2.2.2.1]⟩, some ⟨false, [.seq .bool 256 d.2.2.2.2.2.1.2.1]⟩, some ⟨false, [.int .i64 d.2.2.2.2.2.2.1.2.1, .int .i64 d.2.2.2.2.2.2.1.2.2.1, .int .i64 d.2.2.2.2.2.2.1.2.2.2.1, .int .i64 d.2.2.2.2.2.2.1.2.2.2.2.1, .full 6]⟩, some ⟨false, [.seq .str 0 y15]⟩]) (fun y14 => K (.exit 0) [.tv (.lf (.ptr 5 0))] [some ⟨d.2.1.1, [.full 1, .full 2, .int .i64 d.2.1.2.2.2.1, .bool d.2.1.2.2.2.2.1, .int .i64 d.2.1.2.2.2.2.2.1]⟩, some ⟨d.2.2.1.1, [.seq .str 0 d.2.2.1.2.1]⟩, some ⟨d.2.2.2.1.1, [.seq (.pair (.int .i64) .str) 0 d.2.2.2.1.2.1]⟩, some ⟨false, [.int .i64 d.2.2.2.2.1.2.1, .int .i64 d.2.2.2.2.1.2.2.1, .int .i64 d.2.2.2.2.1.2.2.2.1, .int .i64 d.2.2.2.2.1.2.2.2.2.1]⟩, some ⟨false, [.seq .bool 256 d.2.2.2.2.2.1.2.1]⟩, some ⟨false, [.int .i64 d.2.2.2.2.2.2.1.2.1, .int .i64 d.2.2.2.2.2.2.1.2.2.1, .int .i64 d.2.2.2.2.2.2.1.2.2.2.1, .int .i64 d.2.2.2.2.2.2.1.2.2.2.2.1, .full 6]⟩, some ⟨false, [.seq .str 0 y14]⟩]) k d.1.2.2.2.2.2.1 d.2.2.2.2.2.2.2.1.2.1
noncomputable def G107_1_8 (F k : Nat) : LoopS := orG sh107_1_l8 (fun d K => A107_1_l8 (f107_1_l8 F) k d K) (mkG sh107_1_l8_2 [0, 4, 5, 10, 35, 36] (outT [(.exit 0, [10]), (.ret, [6, 7])]) (fun d K => A107_1_l8_2 (f107_1_l8_2 F) k d K) [])
noncomputable def LT107_1 (F : Nat) : Nat → Option LoopS := ltab [(8, G107_1_8 F F)]
theorem L107_1_8 (F : Nat) : LoopOK Tryz.prog (T107_1 F) (xw []) 63 3 (LT107_1 F) (G107_1_8 F F) b107_0 :=
  loopOK_vers (G107_1_8 F) F (fun k => ⟨rfl, rfl⟩) (verOK_cons (s := sh107_1_l8) (all := (G107_1_8 F)) (fun k d K => A107_1_l8 (f107_1_l8 F) k d K) (fun d K => by kernel_rfl) (fun k d K => by delta A107_1_l8; refine (f107_1_l8.eq_2 ..).trans ?_; delta T107_1 S37_1 S129_1 S160_1 S161_1 S162_1 S162_1385 LT107_1; generalize (G107_1_8 F F) = c;  (try delta G107_1_8); generalize (f37_1 F : Y37_1) = c, (f129_1 F : Y129_1) = c, (f160_1 F : Y160_1) = c, (f161_1 F : Y161_1) = c, (f162_1 F : Y162_1) = c, (f162_1385 F : Y162_1385) = c, (f107_1_l8 F : Y107_1_l8) = c, (f107_1_l8_2 F : Y107_1_l8_2) = c; as_aux_lemma => kernel_rfl) (verOK_last (s := sh107_1_l8_2) (live := [0, 4, 5, 10, 35, 36]) (out := (outT [(.exit 0, [10]), (.ret, [6, 7])])) (mv := []) (all := (G107_1_8 F)) (fun k d K => A107_1_l8_2 (f107_1_l8_2 F) k d K) (fun d K => by kernel_rfl) (fun k d K => by delta A107_1_l8_2; refine (f107_1_l8_2.eq_2 ..).trans ?_; delta T107_1 S37_1 S129_1 S160_1 S161_1 S162_1 S162_1385 LT107_1; generalize (G107_1_8 F F) = c;  (try delta G107_1_8); generalize (f37_1 F : Y37_1) = c, (f129_1 F : Y129_1) = c, (f160_1 F : Y160_1) = c, (f161_1 F : Y161_1) = c, (f162_1 F : Y162_1) = c, (f162_1385 F : Y162_1385) = c, (f107_1_l8 F : Y107_1_l8) = c, (f107_1_l8_2 F : Y107_1_l8_2) = c; as_aux_lemma => kernel_rfl)))
theorem E107_1 (F : Nat) (d : sh107_1.den) (K : KF) : EB Tryz.prog (T107_1 F) (xw []) 63 3 (LT107_1 F) [] false Tryz.f107 sh107_1 d K = A107_1 (f107_1 F) d K := by delta A107_1 f107_1 T107_1 S37_1 S129_1 S160_1 S161_1 S162_1 S162_1385 LT107_1;  delta G107_1_8; generalize (f37_1 F : Y37_1) = c, (f129_1 F : Y129_1) = c, (f160_1 F : Y160_1) = c, (f161_1 F : Y161_1) = c, (f162_1 F : Y162_1) = c, (f162_1385 F : Y162_1385) = c, (f107_1_l8 F : Y107_1_l8) = c, (f107_1_l8_2 F : Y107_1_l8_2) = c; as_aux_lemma => kernel_rfl
theorem S107_1_ok : So Tryz.prog 107 S107_1 :=
  fun F o ho => sOf (fn := Tryz.f107) (c := code107) (tab_cons (S37_1_ok F _ (noS_sound enter37)) (tab_cons (S129_1_ok F _ (noS_sound enter129)) (tab_cons (S160_1_ok F _ (noS_sound enter160)) (tab_cons (S161_1_ok F _ (noS_sound enter161)) (tab_cons (S162_1_ok F _ (S162_1385_ok F _ (noS_sound enter162))) tab_nil))))) ho (by rw [loops107]; exact (loopsOK_cons (by kernel_rfl) (L107_1_8 F) loopsOK_nil)) snil rnil (E107_1 F)
end
section
noncomputable def f108_1 {β : Type} (F : Nat) (a1 a2 a3 a4 : Int) (a5 : List ByteArray) (K0 : List ByteArray → Option β) : Option β := f87_1 F a5 (fun x1 => K0 x1) 
variable [FZ]
def sh108_1 : Sh := ⟨[.lf (.ptr 0 0)], [some ⟨none, [.int .i64, .int .i64, .int .i64, .int .i64, .full 1]⟩, some ⟨none, [.seq .str 0]⟩]⟩
abbrev Y108_1 := Int → Int → Int → Int → List ByteArray → (List ByteArray → Option Res) → Option Res
noncomputable def A108_1 (g : Y108_1) (d : sh108_1.den) (K : KF) : Option Res := g d.2.1.2.1 d.2.1.2.2.1 d.2.1.2.2.2.1 d.2.1.2.2.2.2.1 d.2.2.1.2.1 (fun y5 => K [.lf (.full 2)] [some ⟨d.2.1.1, [.int .i64 d.2.1.2.1, .int .i64 d.2.1.2.2.1, .int .i64 d.2.1.2.2.2.1, .int .i64 d.2.1.2.2.2.2.1, .full 1]⟩, some ⟨d.2.2.1.1, [.seq .str 0 d.2.2.1.2.1]⟩, some ⟨false, [.seq .str 0 y5]⟩])
noncomputable def S108_1 (F : Nat) (o : Summ) : Summ := mkS sh108_1 (fun d K => A108_1 (f108_1 F) d K) o
noncomputable def code108 : Code := bodyOf Tryz.f108
theorem enter108 : En Tryz.prog 108 := enO (fn := Tryz.f108)
noncomputable def T108_1 (F : Nat) : FuncId → Option Summ := tab [(87, (S87_1 F noS))]
noncomputable def LT108_1 (F : Nat) : Nat → Option LoopS := ltab []
theorem E108_1 (F : Nat) (d : sh108_1.den) (K : KF) : EB Tryz.prog (T108_1 F) (xw []) 10 2 (LT108_1 F) [] false Tryz.f108 sh108_1 d K = A108_1 (f108_1 F) d K := by delta A108_1 f108_1 T108_1 S87_1 LT108_1;  generalize (f87_1 F : Y87_1) = c; as_aux_lemma => kernel_rfl
theorem S108_1_ok : So Tryz.prog 108 S108_1 :=
  fun F o ho => sOf (fn := Tryz.f108) (c := code108) (tab_cons (S87_1_ok F _ (noS_sound enter87)) tab_nil) ho lnil snil rnil (E108_1 F)
end
section
noncomputable def f108_568 {β : Type} (F : Nat)  (K0 : List ByteArray → Option β) : Option β := K0 []
variable [FZ]
def sh108_568 : Sh := ⟨[.lf (.nilp)], []⟩
abbrev Y108_568 := (List ByteArray → Option Res) → Option Res
noncomputable def A108_568 (g : Y108_568) (d : sh108_568.den) (K : KF) : Option Res := g (fun y0 => K [.lf (.full 0)] [some ⟨false, [.seq .str 0 y0]⟩])
noncomputable def S108_568 (F : Nat) (o : Summ) : Summ := mkS sh108_568 (fun d K => A108_568 (f108_568 F) d K) o
noncomputable def T108_568 (F : Nat) : FuncId → Option Summ := tab []
noncomputable def LT108_568 (F : Nat) : Nat → Option LoopS := ltab []
theorem E108_568 (F : Nat) (d : sh108_568.den) (K : KF) : EB Tryz.prog (T108_568 F) (xw []) 10 0 (LT108_568 F) [] false Tryz.f108 sh108_568 d K = A108_568 (f108_568 F) d K := by delta A108_568 f108_568 T108_568 LT108_568;   as_aux_lemma => kernel_rfl
theorem S108_568_ok : So Tryz.prog 108 S108_568 :=
  fun F o ho => sOf (fn := Tryz.f108) (c := code108) tab_nil ho lnil snil rnil (E108_568 F)
end
section
noncomputable def f94_1 {β : Type} (F : Nat) (a1 : Int) (a2 : ByteArray) (K0 : ByteArray → Int → Option β) : Option β := cond (decide (a1 < 1)) (K0 ByteArray.empty 22) (cond (decide (a1 > 8)) (K0 ByteArray.empty 22) (cond (decide ((a2.size : Int) > 58)) (K0 ByteArray.empty 8) (cond (decide ((ofInts [IntKind.u8.wrap a1, IntKind.u8.wrap (a2.size : Int)]).size + a2.size ≤ 4611686018427387904)) (f145_1 F (⟨#[0]⟩ : ByteArray) (IntKind.i64.wrap (60 - (((ofInts [IntKind.u8.wrap a1, IntKind.u8.wrap (a2.size : Int)]) ++ a2).size : Int))) (fun x1 => cond (decide (((ofInts [IntKind.u8.wrap a1, IntKind.u8.wrap (a2.size : Int)]) ++ a2).size + x1.size ≤ 4611686018427387904)) (f146_1 F (((ofInts [IntKind.u8.wrap a1, IntKind.u8.wrap (a2.size : Int)]) ++ a2) ++ x1) (fun x2 => cond (decide ((((ofInts [IntKind.u8.wrap a1, IntKind.u8.wrap (a2.size : Int)]) ++ a2) ++ x1).size + x2.size ≤ 4611686018427387904)) (K0 ((((ofInts [IntKind.u8.wrap a1, IntKind.u8.wrap (a2.size : Int)]) ++ a2) ++ x1) ++ x2) 0) none) ) none) ) none)))
variable [FZ]
def sh94_1 : Sh := ⟨[.lf (.int .i64), .lf (.str)], []⟩
abbrev Y94_1 := Int → ByteArray → (ByteArray → Int → Option Res) → Option Res
noncomputable def A94_1 (g : Y94_1) (d : sh94_1.den) (K : KF) : Option Res := g d.1.1 d.1.2.1 (fun y0 y1 => K [.lf (.str y0), .lf (.int .i64 y1)] [])
noncomputable def S94_1 (F : Nat) (o : Summ) : Summ := mkS sh94_1 (fun d K => A94_1 (f94_1 F) d K) o
noncomputable def code94 : Code := bodyOf Tryz.f94
theorem enter94 : En Tryz.prog 94 := enO (fn := Tryz.f94)
noncomputable def T94_1 (F : Nat) : FuncId → Option Summ := tab [(145, (S145_1 F noS)), (146, (S146_1 F noS))]
noncomputable def LT94_1 (F : Nat) : Nat → Option LoopS := ltab []
theorem E94_1 (F : Nat) (d : sh94_1.den) (K : KF) : EB Tryz.prog (T94_1 F) (xw []) 37 0 (LT94_1 F) [] false Tryz.f94 sh94_1 d K = A94_1 (f94_1 F) d K := by delta A94_1 f94_1 T94_1 S145_1 S146_1 LT94_1;  generalize (f145_1 F : ByteArray → Int → (ByteArray → Option Res) → Option Res) = c, (f146_1 F : Y146_1) = c; as_aux_lemma => kernel_rfl
theorem S94_1_ok : So Tryz.prog 94 S94_1 :=
  fun F o ho => sOf (fn := Tryz.f94) (c := code94) (tab_cons (S145_1_ok F _ (noS_sound enter145)) (tab_cons (S146_1_ok F _ (noS_sound enter146)) tab_nil)) ho lnil snil rnil (E94_1 F)
end
section
noncomputable def f109_1 {β : Type} (F : Nat) (a1 a2 a3 a4 a5 : Int) (a6 : ByteArray) (a7 : Int) (a8 : Bool) (a9 : Int) (a10 : List ByteArray) (a11 : List (Int × ByteArray)) (K0 : Int → Int → Bool → Int → List (Int × ByteArray) → Option β) : Option β := f155_1 F a1 a2 a3 a4 a5 (fun x1 => cond (decide (x1 < 0)) (K0 3 a7 a8 a9 a11) (f163_1 F a6 (fun x2 => cond (!x2) (K0 4 a7 a8 a9 a11) (f157_1 F a5 a6 (fun x3 => f94_1 F 6 x3 (fun x4 x5 => cond (x5 != 0) (K0 x5 a7 a8 a9 a11) (f24_1 F x1 x4 a7 a8 a9 a10 a11 (fun x6 x7 x8 x9 x10 => K0 x6 x7 x8 x9 x10) )) ) )) )) 
variable [FZ]
def sh109_1 : Sh := ⟨[.lf (.ptr 0 0), .agg [.int .i64, .int .i64, .int .i64, .int .i64], .lf (.int .i64), .lf (.str)], [some ⟨some false, [.full 1, .full 2, .int .i64, .bool, .int .i64]⟩, some ⟨none, [.seq .str 0]⟩, some ⟨some false, [.seq (.pair (.int .i64) .str) 0]⟩]⟩
abbrev Y109_1 := Int → Int → Int → Int → Int → ByteArray → Int → Bool → Int → List ByteArray → List (Int × ByteArray) → (Int → Int → Bool → Int → List (Int × ByteArray) → Option Res) → Option Res
noncomputable def A109_1 (g : Y109_1) (d : sh109_1.den) (K : KF) : Option Res := g d.1.2.1.1 d.1.2.1.2.1 d.1.2.1.2.2.1 d.1.2.1.2.2.2.1 d.1.2.2.1 d.1.2.2.2.1 d.2.1.2.2.2.1 d.2.1.2.2.2.2.1 d.2.1.2.2.2.2.2.1 d.2.2.1.2.1 d.2.2.2.1.2.1 (fun y0 y1 y2 y3 y5 => K [.lf (.int .i64 y0)] [some ⟨false, [.full 1, .full 3, .int .i64 y1, .bool y2, .int .i64 y3]⟩, some ⟨d.2.2.1.1, [.seq .str 0 d.2.2.1.2.1]⟩, none, some ⟨false, [.seq (.pair (.int .i64) .str) 0 y5]⟩])
noncomputable def S109_1 (F : Nat) (o : Summ) : Summ := mkS sh109_1 (fun d K => A109_1 (f109_1 F) d K) o
noncomputable def code109 : Code := bodyOf Tryz.f109
theorem enter109 : En Tryz.prog 109 := enO (fn := Tryz.f109)
noncomputable def T109_1 (F : Nat) : FuncId → Option Summ := tab [(24, (S24_1 F noS)), (94, (S94_1 F noS)), (155, (S155_1 F noS)), (157, (S157_1 F noS)), (163, (S163_1 F noS))]
noncomputable def LT109_1 (F : Nat) : Nat → Option LoopS := ltab []
theorem E109_1 (F : Nat) (d : sh109_1.den) (K : KF) : EB Tryz.prog (T109_1 F) (xw []) 36 3 (LT109_1 F) [2] false Tryz.f109 sh109_1 d K = A109_1 (f109_1 F) d K := by delta A109_1 f109_1 T109_1 S24_1 S94_1 S155_1 S157_1 S163_1 LT109_1;  generalize (f24_1 F : Y24_1) = c, (f94_1 F : Y94_1) = c, (f155_1 F : Y155_1) = c, (f157_1 F : Y157_1) = c, (f163_1 F : Y163_1) = c; as_aux_lemma => kernel_rfl
theorem S109_1_ok : So Tryz.prog 109 S109_1 :=
  fun F o ho => sOf (fn := Tryz.f109) (c := code109) (tab_cons (S24_1_ok F _ (noS_sound enter24)) (tab_cons (S94_1_ok F _ (noS_sound enter94)) (tab_cons (S155_1_ok F _ (noS_sound enter155)) (tab_cons (S157_1_ok F _ (noS_sound enter157)) (tab_cons (S163_1_ok F _ (noS_sound enter163)) tab_nil))))) ho lnil snil rnil (E109_1 F)
end
section
noncomputable def f110_1 {β : Type} (F : Nat) (a1 a2 a3 a4 : Int) (a5 : List ByteArray) (K0 : ByteArray → Option β) : Option β := cond (decide ((0 : Int) ≤ IntKind.i64.wrap (((a5.length : Nat) : Int) - 1) ∧ IntKind.i64.wrap (((a5.length : Nat) : Int) - 1) < ((a5.length : Nat) : Int))) (cond (decide (0 + ((IntKind.i64.wrap (((a5.length : Nat) : Int) - 1)).toNat) < a5.length)) (K0 (a5.getD (0 + ((IntKind.i64.wrap (((a5.length : Nat) : Int) - 1)).toNat)) ByteArray.empty)) none) none
variable [FZ]
def sh110_1 : Sh := ⟨[.lf (.ptr 0 0)], [some ⟨none, [.int .i64, .int .i64, .int .i64, .int .i64, .full 1]⟩, some ⟨none, [.seq .str 0]⟩]⟩
abbrev Y110_1 := Int → Int → Int → Int → List ByteArray → (ByteArray → Option Res) → Option Res
noncomputable def A110_1 (g : Y110_1) (d : sh110_1.den) (K : KF) : Option Res := g d.2.1.2.1 d.2.1.2.2.1 d.2.1.2.2.2.1 d.2.1.2.2.2.2.1 d.2.2.1.2.1 (fun y0 => K [.lf (.str y0)] [some ⟨d.2.1.1, [.int .i64 d.2.1.2.1, .int .i64 d.2.1.2.2.1, .int .i64 d.2.1.2.2.2.1, .int .i64 d.2.1.2.2.2.2.1, .full 1]⟩, some ⟨d.2.2.1.1, [.seq .str 0 d.2.2.1.2.1]⟩])
noncomputable def S110_1 (F : Nat) (o : Summ) : Summ := mkS sh110_1 (fun d K => A110_1 (f110_1 F) d K) o
noncomputable def code110 : Code := bodyOf Tryz.f110
theorem enter110 : En Tryz.prog 110 := enO (fn := Tryz.f110)
noncomputable def T110_1 (F : Nat) : FuncId → Option Summ := tab []
noncomputable def LT110_1 (F : Nat) : Nat → Option LoopS := ltab []
theorem E110_1 (F : Nat) (d : sh110_1.den) (K : KF) : EB Tryz.prog (T110_1 F) (xw []) 17 2 (LT110_1 F) [] false Tryz.f110 sh110_1 d K = A110_1 (f110_1 F) d K := by delta A110_1 f110_1 T110_1 LT110_1;   as_aux_lemma => kernel_rfl
theorem S110_1_ok : So Tryz.prog 110 S110_1 :=
  fun F o ho => sOf (fn := Tryz.f110) (c := code110) tab_nil ho lnil snil rnil (E110_1 F)
end
section
noncomputable def f110_568 {β : Type} (F : Nat)  (K0 : Option β) : Option β := K0
variable [FZ]
def sh110_568 : Sh := ⟨[.lf (.nilp)], []⟩
abbrev Y110_568 := (Option Res) → Option Res
noncomputable def A110_568 (g : Y110_568) (d : sh110_568.den) (K : KF) : Option Res := g (K [.lf (.str ByteArray.empty)] [])
noncomputable def S110_568 (F : Nat) (o : Summ) : Summ := mkS sh110_568 (fun d K => A110_568 (f110_568 F) d K) o
noncomputable def T110_568 (F : Nat) : FuncId → Option Summ := tab []
noncomputable def LT110_568 (F : Nat) : Nat → Option LoopS := ltab []
theorem E110_568 (F : Nat) (d : sh110_568.den) (K : KF) : EB Tryz.prog (T110_568 F) (xw []) 17 0 (LT110_568 F) [] false Tryz.f110 sh110_568 d K = A110_568 (f110_568 F) d K := by delta A110_568 f110_568 T110_568 LT110_568;   as_aux_lemma => kernel_rfl
theorem S110_568_ok : So Tryz.prog 110 S110_568 :=
  fun F o ho => sOf (fn := Tryz.f110) (c := code110) tab_nil ho lnil snil rnil (E110_568 F)
end
section
noncomputable def f27_1_l6 {β : Type} (F : Nat) (v5 v7 : Int) (v8 : Bool) (v9 : Int) (v11 : List (Int × ByteArray)) (K0 : List ByteArray → Option β) : Nat → Int → List ByteArray → Option β
  | 0, _, _ => none
  | k + 1, v6, v10 => cond (decide (v6 < v5)) (cond (decide ((0 : Int) ≤ v6 ∧ v6 < ((v11.length : Nat) : Int))) (cond (decide (0 + v6.toNat < v11.length)) (cond (decide ((0 : Int) ≤ (v11.getD (0 + v6.toNat) (0, ByteArray.empty)).1 ∧ (v11.getD (0 + v6.toNat) (0, ByteArray.empty)).1 < ((v10.length : Nat) : Int))) (cond (decide (0 + (((v11.getD (0 + v6.toNat) (0, ByteArray.empty)).1).toNat) < v10.length)) (f27_1_l6 F v5 v7 v8 v9 v11 K0 k (IntKind.i64.wrap (v6 + 1)) (v10.set (0 + (((v11.getD (0 + v6.toNat) (0, ByteArray.empty)).1).toNat)) ((v11.getD (0 + v6.toNat) (0, ByteArray.empty)).2))) none) none) none) none) (K0 v10)
noncomputable def f27_1 {β : Type} (F : Nat) (a1 : Int) (a2 : Bool) (a3 : Int) (a4 : List ByteArray) (a5 : List (Int × ByteArray)) (K0 : Int → Int → Bool → Int → List ByteArray → List (Int × ByteArray) → Option β) : Option β := cond a2 (K0 5 a1 a2 a3 a4 a5) (f86_1 F a1 a2 a3 a4 a5 (fun x1 x2 x3 x4 => cond (!x1) (K0 5 x2 x3 x4 a4 a5) (f27_1_l6 F ((a5.length : Nat) : Int) x2 x3 x4 a5 (fun x12 => K0 0 x2 x3 x4 x12 []) F 0 a4)) )
variable [FZ]
def sh27_1 : Sh := ⟨[.lf (.ptr 0 0)], [some ⟨some false, [.full 1, .full 2, .int .i64, .bool, .int .i64]⟩, some ⟨some false, [.seq .str 0]⟩, some ⟨some false, [.seq (.pair (.int .i64) .str) 0]⟩]⟩
abbrev Y27_1 := Int → Bool → Int → List ByteArray → List (Int × ByteArray) → (Int → Int → Bool → Int → List ByteArray → List (Int × ByteArray) → Option Res) → Option Res
noncomputable def A27_1 (g : Y27_1) (d : sh27_1.den) (K : KF) : Option Res := g d.2.1.2.2.2.1 d.2.1.2.2.2.2.1 d.2.1.2.2.2.2.2.1 d.2.2.1.2.1 d.2.2.2.1.2.1 (fun y0 y1 y2 y3 y4 y5 => K [.lf (.int .i64 y0)] [some ⟨false, [.full 1, .full 3, .int .i64 y1, .bool y2, .int .i64 y3]⟩, some ⟨false, [.seq .str 0 y4]⟩, none, some ⟨false, [.seq (.pair (.int .i64) .str) 0 y5]⟩])
noncomputable def S27_1 (F : Nat) (o : Summ) : Summ := mkS sh27_1 (fun d K => A27_1 (f27_1 F) d K) o
noncomputable def code27 : Code := bodyOf Tryz.f27
noncomputable def b27_0 : Code := cB (cB (cR (cL (cR (cR (code27))))))
theorem loops27 : loopsOf code27 = [b27_0] := by kernel_rfl
theorem enter27 : En Tryz.prog 27 := enO (fn := Tryz.f27)
noncomputable def T27_1 (F : Nat) : FuncId → Option Summ := tab [(86, (S86_1 F noS))]
def sh27_1_l6 : Sh := ⟨[.lf (.ptr 0 0), .lf (.full 2), .lf (.int .i64), .lf (.int .i64)], [some ⟨some false, [.full 1, .full 2, .int .i64, .bool, .int .i64]⟩, some ⟨some false, [.seq .str 0]⟩, some ⟨some false, [.seq (.pair (.int .i64) .str) 0]⟩]⟩
abbrev Y27_1_l6 := Int → Int → Bool → Int → List (Int × ByteArray) → (List ByteArray → Option Res) → Nat → Int → List ByteArray → Option Res
noncomputable def A27_1_l6 (g : Y27_1_l6) (k : Nat) (d : sh27_1_l6.den) (K : KL) : Option Res := g d.1.2.2.1 d.2.1.2.2.2.1 d.2.1.2.2.2.2.1 d.2.1.2.2.2.2.2.1 d.2.2.2.1.2.1 (fun y3 => K (.exit 1) [.tv (.lf (.ptr 0 0))] [some ⟨false, [.full 1, .full 2, .int .i64 d.2.1.2.2.2.1, .bool d.2.1.2.2.2.2.1, .int .i64 d.2.1.2.2.2.2.2.1]⟩, some ⟨false, [.seq .str 0 y3]⟩, some ⟨false, [.seq (.pair (.int .i64) .str) 0 d.2.2.2.1.2.1]⟩]) k d.1.2.2.2.1 d.2.2.1.2.1
noncomputable def G27_1_6 (F k : Nat) : LoopS := mkG sh27_1_l6 [0, 21, 22, 23] (outT [(.exit 1, [0])]) (fun d K => A27_1_l6 (f27_1_l6 F) k d K) []
noncomputable def LT27_1 (F : Nat) : Nat → Option LoopS := ltab [(6, G27_1_6 F F)]
theorem L27_1_6 (F : Nat) : LoopOK Tryz.prog (T27_1 F) (xw []) 40 3 (LT27_1 F) (G27_1_6 F F) b27_0 :=
  loopOK_of (s := sh27_1_l6) (live := [0, 21, 22, 23]) (out := (outT [(.exit 1, [0])])) (mv := []) (fun k d K => A27_1_l6 (f27_1_l6 F) k d K) F (fun d K => by kernel_rfl)  (fun k d K => by delta A27_1_l6; refine (f27_1_l6.eq_2 ..).trans ?_; delta T27_1 S86_1 LT27_1; generalize (G27_1_6 F F) = c;  (try delta G27_1_6); generalize (f86_1 F : Y86_1) = c, (f27_1_l6 F : Y27_1_l6) = c; as_aux_lemma => kernel_rfl)
theorem E27_1 (F : Nat) (d : sh27_1.den) (K : KF) : EB Tryz.prog (T27_1 F) (xw []) 40 3 (LT27_1 F) [2] false Tryz.f27 sh27_1 d K = A27_1 (f27_1 F) d K := by delta A27_1 f27_1 T27_1 S86_1 LT27_1;  delta G27_1_6; generalize (f86_1 F : Y86_1) = c, (f27_1_l6 F : Y27_1_l6) = c; as_aux_lemma => kernel_rfl
theorem S27_1_ok : So Tryz.prog 27 S27_1 :=
  fun F o ho => sOf (fn := Tryz.f27) (c := code27) (tab_cons (S86_1_ok F _ (noS_sound enter86)) tab_nil) ho (by rw [loops27]; exact (loopsOK_cons (by kernel_rfl) (L27_1_6 F) loopsOK_nil)) snil rnil (E27_1 F)
end
section
noncomputable def f42_1_l12 {β : Type} (F : Nat) (v9 : Int) (v14 : List ByteArray) (v15 : List Int) (v17 v18 v19 v20 : Int) (v21 : List Bool) (v22 : List ByteArray) (K0 : Int → Int → Bool → Int → List (Int × ByteArray) → Option β) (K1 : Int → Bool → Int → List (Int × ByteArray) → Option β) : Nat → Int → Int → Bool → Int → List (Int × ByteArray) → Option β
  | 0, _, _, _, _, _ => none
  | k + 1, v10, v11, v12, v13, v16 => cond (decide (v10 < v9)) (cond (decide ((0 : Int) ≤ v10 ∧ v10 < ((v22.length : Nat) : Int))) (cond (decide (0 + v10.toNat < v22.length)) (cond (decide ((0 : Int) ≤ v10 ∧ v10 < 256)) (cond (decide (v10.toNat < v21.length)) (cond (!(v21.getD v10.toNat false)) (f42_1_l12 F v9 v14 v15 v17 v18 v19 v20 v21 v22 K0 K1 k (IntKind.i64.wrap (v10 + 1)) v11 v12 v13 v16) (f109_1 F v17 v18 v19 v20 v10 (v22.getD (0 + v10.toNat) ByteArray.empty) v11 v12 v13 v14 v16 (fun x23 x24 x25 x26 x27 => cond (x23 != 0) (K0 x23 x24 x25 x26 x27) (f42_1_l12 F v9 v14 v15 v17 v18 v19 v20 v21 v22 K0 K1 k (IntKind.i64.wrap (v10 + 1)) x24 x25 x26 x27)) )) none) none) none) none) (K1 v11 v12 v13 v16)
noncomputable def f42_1_l12_2 {β : Type} (F : Nat) (v45 : Int) (v50 : List ByteArray) (v51 : List Int) (v53 v54 v55 v56 : Int) (v57 : List Bool) (v58 v59 v60 v61 : Int) (v62 v63 : List ByteArray) (K0 : Int → Int → Bool → Int → List (Int × ByteArray) → Option β) (K1 : Int → Bool → Int → List (Int × ByteArray) → Option β) : Nat → Int → Int → Bool → Int → List (Int × ByteArray) → Option β
  | 0, _, _, _, _, _ => none
  | k + 1, v46, v47, v48, v49, v52 => cond (decide (v46 < v45)) (cond (decide ((0 : Int) ≤ v46 ∧ v46 < ((v63.length : Nat) : Int))) (cond (decide (0 + v46.toNat < v63.length)) (cond (decide ((0 : Int) ≤ v46 ∧ v46 < 256)) (cond (decide (v46.toNat < v57.length)) (cond (!(v57.getD v46.toNat false)) (f42_1_l12_2 F v45 v50 v51 v53 v54 v55 v56 v57 v58 v59 v60 v61 v62 v63 K0 K1 k (IntKind.i64.wrap (v46 + 1)) v47 v48 v49 v52) (f109_1 F v53 v54 v55 v56 v46 (v63.getD (0 + v46.toNat) ByteArray.empty) v47 v48 v49 v50 v52 (fun x64 x65 x66 x67 x68 => cond (x64 != 0) (K0 x64 x65 x66 x67 x68) (f42_1_l12_2 F v45 v50 v51 v53 v54 v55 v56 v57 v58 v59 v60 v61 v62 v63 K0 K1 k (IntKind.i64.wrap (v46 + 1)) x65 x66 x67 x68)) )) none) none) none) none) (K1 v47 v48 v49 v52)
noncomputable def f42_1 {β : Type} (F : Nat) (a1 a2 a3 a4 a5 : Int) (a6 : Bool) (a7 : Int) (a8 : List ByteArray) (a9 : List (Int × ByteArray)) (a10 : List Int) (K0 : ByteArray → Int → Int → Bool → Int → List ByteArray → List (Int × ByteArray) → Option β) : Option β := f90_1 F a1 a2 a3 a4 (fun x1 => cond (!x1) (K0 ByteArray.empty 12 a5 a6 a7 a8 a9) (f105_1 F a1 a2 a3 a4 a10 (fun x2 x3 => cond (x3 != 0) (K0 ByteArray.empty x3 a5 a6 a7 a8 a9) (cond (((a10.length : Nat) : Int) == 0) (f106_1 F a1 a2 a3 a4 (fun x4 => f103_1 F a1 a2 a3 a4 x4 a5 a6 a7 a8 a9 (fun x5 x6 => K0 x5 x6 a5 a6 a7 a8 a9) ) ) (f107_1 F a1 a2 a3 a4 x2 a5 a6 a7 a8 a9 (fun x7 => cond (x7 != 0) (K0 ByteArray.empty x7 a5 a6 a7 a8 a9) (f108_568 F  (fun x8 => f42_1_l12 F ((x8.length : Nat) : Int) a8 a10 a1 a2 a3 a4 x2 x8 (fun x28 x29 x30 x31 x32 => K0 ByteArray.empty x28 x29 x30 x31 a8 x32) (fun x33 x34 x35 x36 => f27_1 F x33 x34 x35 a8 x36 (fun x37 x38 x39 x40 x41 x42 => cond (x37 != 0) (K0 ByteArray.empty x37 x38 x39 x40 x41 x42) (f110_568 F  (K0 ByteArray.empty 0 x38 x39 x40 x41 x42) )) ) F 0 a5 a6 a7 a9) )) (fun x43 => f108_1 F a1 a2 a3 a4 x43 (fun x44 => f42_1_l12_2 F ((x44.length : Nat) : Int) a8 a10 a1 a2 a3 a4 x2 a1 a2 a3 a4 x43 x44 (fun x69 x70 x71 x72 x73 => K0 ByteArray.empty x69 x70 x71 x72 a8 x73) (fun x74 x75 x76 x77 => f27_1 F x74 x75 x76 a8 x77 (fun x78 x79 x80 x81 x82 x83 => cond (x78 != 0) (K0 ByteArray.empty x78 x79 x80 x81 x82 x83) (f110_1 F a1 a2 a3 a4 x43 (fun x84 => K0 x84 0 x79 x80 x81 x82 x83) )) ) F 0 a5 a6 a7 a9) ) ))) )) 
variable [FZ]
def sh42_1 : Sh := ⟨[.lf (.ptr 0 0), .agg [.int .i64, .int .i64, .int .i64, .int .i64], .lf (.full 3)], [some ⟨some false, [.full 1, .full 2, .int .i64, .bool, .int .i64]⟩, some ⟨some false, [.seq .str 0]⟩, some ⟨some false, [.seq (.pair (.int .i64) .str) 0]⟩, some ⟨none, [.seq (.int .i64) 0]⟩]⟩
abbrev Y42_1 := Int → Int → Int → Int → Int → Bool → Int → List ByteArray → List (Int × ByteArray) → List Int → (ByteArray → Int → Int → Bool → Int → List ByteArray → List (Int × ByteArray) → Option Res) → Option Res
noncomputable def A42_1 (g : Y42_1) (d : sh42_1.den) (K : KF) : Option Res := g d.1.2.1.1 d.1.2.1.2.1 d.1.2.1.2.2.1 d.1.2.1.2.2.2.1 d.2.1.2.2.2.1 d.2.1.2.2.2.2.1 d.2.1.2.2.2.2.2.1 d.2.2.1.2.1 d.2.2.2.1.2.1 d.2.2.2.2.1.2.1 (fun y0 y1 y2 y3 y4 y5 y7 => K [.lf (.str y0), .lf (.int .i64 y1)] [some ⟨false, [.full 1, .full 4, .int .i64 y2, .bool y3, .int .i64 y4]⟩, some ⟨false, [.seq .str 0 y5]⟩, none, some ⟨d.2.2.2.2.1.1, [.seq (.int .i64) 0 d.2.2.2.2.1.2.1]⟩, some ⟨false, [.seq (.pair (.int .i64) .str) 0 y7]⟩])
noncomputable def S42_1 (F : Nat) (o : Summ) : Summ := mkS sh42_1 (fun d K => A42_1 (f42_1 F) d K) o
noncomputable def code42 : Code := bodyOf Tryz.f42
noncomputable def b42_0 : Code := cB (cB (cR (cL (cR (cR (cR (cR (cR (cR (code42))))))))))
theorem loops42 : loopsOf code42 = [b42_0] := by kernel_rfl
theorem enter42 : En Tryz.prog 42 := enO (fn := Tryz.f42)
noncomputable def T42_1 (F : Nat) : FuncId → Option Summ := tab [(27, (S27_1 F noS)), (90, (S90_1 F noS)), (103, (S103_1 F noS)), (105, (S105_1 F noS)), (106, (S106_1 F noS)), (107, (S107_1 F noS)), (108, (S108_1 F (S108_568 F noS))), (109, (S109_1 F noS)), (110, (S110_1 F (S110_568 F noS)))]
def sh42_1_l12 : Sh := ⟨[.lf (.ptr 0 0), .lf (.ptr 5 0), .lf (.ptr 6 0), .lf (.nilp), .lf (.full 7), .lf (.int .i64), .lf (.int .i64)], [some ⟨some false, [.full 1, .full 4, .int .i64, .bool, .int .i64]⟩, some ⟨some false, [.seq .str 0]⟩, none, some ⟨none, [.seq (.int .i64) 0]⟩, some ⟨some false, [.seq (.pair (.int .i64) .str) 0]⟩, some ⟨some false, [.int .i64, .int .i64, .int .i64, .int .i64]⟩, some ⟨some false, [.seq .bool 256]⟩, some ⟨some false, [.seq .str 0]⟩]⟩
abbrev Y42_1_l12 := Int → List ByteArray → List Int → Int → Int → Int → Int → List Bool → List ByteArray → (Int → Int → Bool → Int → List (Int × ByteArray) → Option Res) → (Int → Bool → Int → List (Int × ByteArray) → Option Res) → Nat → Int → Int → Bool → Int → List (Int × ByteArray) → Option Res
noncomputable def A42_1_l12 (g : Y42_1_l12) (k : Nat) (d : sh42_1_l12.den) (K : KL) : Option Res := g d.1.2.2.2.2.2.1 d.2.2.1.2.1 d.2.2.2.2.1.2.1 d.2.2.2.2.2.2.1.2.1 d.2.2.2.2.2.2.1.2.2.1 d.2.2.2.2.2.2.1.2.2.2.1 d.2.2.2.2.2.2.1.2.2.2.2.1 d.2.2.2.2.2.2.2.1.2.1 d.2.2.2.2.2.2.2.2.1.2.1 (fun y1 y2 y3 y4 y13 => K .ret [.tv (.lf (.str ByteArray.empty)), .tv (.lf (.int .i64 y1))] [some ⟨false, [.full 1, .full 8, .int .i64 y2, .bool y3, .int .i64 y4]⟩, some ⟨false, [.seq .str 0 d.2.2.1.2.1]⟩, none, some ⟨d.2.2.2.2.1.1, [.seq (.int .i64) 0 d.2.2.2.2.1.2.1]⟩, none, some ⟨false, [.int .i64 d.2.2.2.2.2.2.1.2.1, .int .i64 d.2.2.2.2.2.2.1.2.2.1, .int .i64 d.2.2.2.2.2.2.1.2.2.2.1, .int .i64 d.2.2.2.2.2.2.1.2.2.2.2.1]⟩, some ⟨false, [.seq .bool 256 d.2.2.2.2.2.2.2.1.2.1]⟩, some ⟨false, [.seq .str 0 d.2.2.2.2.2.2.2.2.1.2.1]⟩, some ⟨false, [.seq (.pair (.int .i64) .str) 0 y13]⟩]) (fun y0 y1 y2 y5 => K (.exit 1) [.tv (.lf (.ptr 0 0)), .tv (.lf (.nilp))] [some ⟨false, [.full 1, .full 4, .int .i64 y0, .bool y1, .int .i64 y2]⟩, some ⟨false, [.seq .str 0 d.2.2.1.2.1]⟩, none, some ⟨d.2.2.2.2.1.1, [.seq (.int .i64) 0 d.2.2.2.2.1.2.1]⟩, some ⟨false, [.seq (.pair (.int .i64) .str) 0 y5]⟩, some ⟨false, [.int .i64 d.2.2.2.2.2.2.1.2.1, .int .i64 d.2.2.2.2.2.2.1.2.2.1, .int .i64 d.2.2.2.2.2.2.1.2.2.2.1, .int .i64 d.2.2.2.2.2.2.1.2.2.2.2.1]⟩, some ⟨false, [.seq .bool 256 d.2.2.2.2.2.2.2.1.2.1]⟩, some ⟨false, [.seq .str 0 d.2.2.2.2.2.2.2.2.1.2.1]⟩]) k d.1.2.2.2.2.2.2.1 d.2.1.2.2.2.1 d.2.1.2.2.2.2.1 d.2.1.2.2.2.2.2.1 d.2.2.2.2.2.1.2.1
def sh42_1_l12_2 : Sh := ⟨[.lf (.ptr 0 0), .lf (.ptr 5 0), .lf (.ptr 6 0), .lf (.ptr 7 0), .lf (.full 9), .lf (.int .i64), .lf (.int .i64)], [some ⟨some false, [.full 1, .full 4, .int .i64, .bool, .int .i64]⟩, some ⟨some false, [.seq .str 0]⟩, none, some ⟨none, [.seq (.int .i64) 0]⟩, some ⟨some false, [.seq (.pair (.int .i64) .str) 0]⟩, some ⟨some false, [.int .i64, .int .i64, .int .i64, .int .i64]⟩, some ⟨some false, [.seq .bool 256]⟩, some ⟨some false, [.int .i64, .int .i64, .int .i64, .int .i64, .full 8]⟩, some ⟨some false, [.seq .str 0]⟩, some ⟨some false, [.seq .str 0]⟩]⟩
abbrev Y42_1_l12_2 := Int → List ByteArray → List Int → Int → Int → Int → Int → List Bool → Int → Int → Int → Int → List ByteArray → List ByteArray → (Int → Int → Bool → Int → List (Int × ByteArray) → Option Res) → (Int → Bool → Int → List (Int × ByteArray) → Option Res) → Nat → Int → Int → Bool → Int → List (Int × ByteArray) → Option Res
noncomputable def A42_1_l12_2 (g : Y42_1_l12_2) (k : Nat) (d : sh42_1_l12_2.den) (K : KL) : Option Res := g d.1.2.2.2.2.2.1 d.2.2.1.2.1 d.2.2.2.2.1.2.1 d.2.2.2.2.2.2.1.2.1 d.2.2.2.2.2.2.1.2.2.1 d.2.2.2.2.2.2.1.2.2.2.1 d.2.2.2.2.2.2.1.2.2.2.2.1 d.2.2.2.2.2.2.2.1.2.1 d.2.2.2.2.2.2.2.2.1.2.1 d.2.2.2.2.2.2.2.2.1.2.2.1 d.2.2.2.2.2.2.2.2.1.2.2.2.1 d.2.2.2.2.2.2.2.2.1.2.2.2.2.1 d.2.2.2.2.2.2.2.2.2.1.2.1 d.2.2.2.2.2.2.2.2.2.2.1.2.1 (fun y1 y2 y3 y4 y18 => K .ret [.tv (.lf (.str ByteArray.empty)), .tv (.lf (.int .i64 y1))] [some ⟨false, [.full 1, .full 10, .int .i64 y2, .bool y3, .int .i64 y4]⟩, some ⟨false, [.seq .str 0 d.2.2.1.2.1]⟩, none, some ⟨d.2.2.2.2.1.1, [.seq (.int .i64) 0 d.2.2.2.2.1.2.1]⟩, none, some ⟨false, [.int .i64 d.2.2.2.2.2.2.1.2.1, .int .i64 d.2.2.2.2.2.2.1.2.2.1, .int .i64 d.2.2.2.2.2.2.1.2.2.2.1, .int .i64 d.2.2.2.2.2.2.1.2.2.2.2.1]⟩, some ⟨false, [.seq .bool 256 d.2.2.2.2.2.2.2.1.2.1]⟩, some ⟨false, [.int .i64 d.2.2.2.2.2.2.2.2.1.2.1, .int .i64 d.2.2.2.2.2.2.2.2.1.2.2.1, .int .i64 d.2.2.2.2.2.2.2.2.1.2.2.2.1, .int .i64 d.2.2.2.2.2.2.2.2.1.2.2.2.2.1, .full 8]⟩, some ⟨false, [.seq .str 0 d.2.2.2.2.2.2.2.2.2.1.2.1]⟩, some ⟨false, [.seq .str 0 d.2.2.2.2.2.2.2.2.2.2.1.2.1]⟩, some ⟨false, [.seq (.pair (.int .i64) .str) 0 y18]⟩]) (fun y0 y1 y2 y5 => K (.exit 1) [.tv (.lf (.ptr 0 0)), .tv (.lf (.ptr 7 0))] [some ⟨false, [.full 1, .full 4, .int .i64 y0, .bool y1, .int .i64 y2]⟩, some ⟨false, [.seq .str 0 d.2.2.1.2.1]⟩, none, some ⟨d.2.2.2.2.1.1, [.seq (.int .i64) 0 d.2.2.2.2.1.2.1]⟩, some ⟨false, [.seq (.pair (.int .i64) .str) 0 y5]⟩, some ⟨false, [.int .i64 d.2.2.2.2.2.2.1.2.1, .int .i64 d.2.2.2.2.2.2.1.2.2.1, .int .i64 d.2.2.2.2.2.2.1.2.2.2.1, .int .i64 d.2.2.2.2.2.2.1.2.2.2.2.1]⟩, some ⟨false, [.seq .bool 256 d.2.2.2.2.2.2.2.1.2.1]⟩, some ⟨false, [.int .i64 d.2.2.2.2.2.2.2.2.1.2.1, .int .i64 d.2.2.2.2.2.2.2.2.1.2.2.1, .int .i64 d.2.2.2.2.2.2.2.2.1.2.2.2.1, .int .i64 d.2.2.2.2.2.2.2.2.1.2.2.2.2.1, .full 8]⟩, some ⟨false, [.seq .str 0 d.2.2.2.2.2.2.2.2.2.1.2.1]⟩, some ⟨false, [.seq .str 0 d.2.2.2.2.2.2.2.2.2.2.1.2.1]⟩]) k d.1.2.2.2.2.2.2.1 d.2.1.2.2.2.1 d.2.1.2.2.2.2.1 d.2.1.2.2.2.2.2.1 d.2.2.2.2.2.1.2.1
noncomputable def G42_1_12 (F k : Nat) : LoopS := orG sh42_1_l12 (fun d K => A42_1_l12 (f42_1_l12 F) k d K) (mkG sh42_1_l12_2 [0, 4, 8, 10, 50, 51, 52] (outT [(.exit 1, [0, 10]), (.ret, [6, 7])]) (fun d K => A42_1_l12_2 (f42_1_l12_2 F) k d K) [2])
noncomputable def LT42_1 (F : Nat) : Nat → Option LoopS := ltab [(12, G42_1_12 F F)]
theorem L42_1_12 (F : Nat) : LoopOK Tryz.prog (T42_1 F) (xw []) 77 4 (LT42_1 F) (G42_1_12 F F) b42_0 :=
  loopOK_vers (G42_1_12 F) F (fun k => ⟨rfl, rfl⟩) (verOK_cons (s := sh42_1_l12) (all := (G42_1_12 F)) (fun k d K => A42_1_l12 (f42_1_l12 F) k d K) (fun d K => by kernel_rfl) (fun k d K => by delta A42_1_l12; refine (f42_1_l12.eq_2 ..).trans ?_; delta T42_1 S27_1 S90_1 S103_1 S105_1 S106_1 S107_1 S108_1 S108_568 S109_1 S110_1 S110_568 LT42_1; generalize (G42_1_12 F F) = c;  (try delta G42_1_12); generalize (f27_1 F : Y27_1) = c, (f90_1 F : Y90_1) = c, (f103_1 F : Y103_1) = c, (f105_1 F : Y105_1) = c, (f106_1 F : Y106_1) = c, (f107_1 F : Y107_1) = c, (f108_1 F : Y108_1) = c, (f108_568 F : Y108_568) = c, (f109_1 F : Y109_1) = c, (f110_1 F : Y110_1) = c, (f110_568 F : Y110_568) = c, (f42_1_l12 F : Y42_1_l12) = c, (f42_1_l12_2 F : Y42_1_l12_2) = c; as_aux_lemma => kernel_rfl) (verOK_last (s := sh42_1_l12_2) (live := [0, 4, 8, 10, 50, 51, 52]) (out := (outT [(.exit 1, [0, 10]), (.ret, [6, 7])])) (mv := [2]) (all := (G42_1_12 F)) (fun k d K => A42_1_l12_2 (f42_1_l12_2 F) k d K) (fun d K => by kernel_rfl) (fun k d K => by delta A42_1_l12_2; refine (f42_1_l12_2.eq_2 ..).trans ?_; delta T42_1 S27_1 S90_1 S103_1 S105_1 S106_1 S107_1 S108_1 S108_568 S109_1 S110_1 S110_568 LT42_1; generalize (G42_1_12 F F) = c;  (try delta G42_1_12); generalize (f27_1 F : Y27_1) = c, (f90_1 F : Y90_1) = c, (f103_1 F : Y103_1) = c, (f105_1 F : Y105_1) = c, (f106_1 F : Y106_1) = c, (f107_1 F : Y107_1) = c, (f108_1 F : Y108_1) = c, (f108_568 F : Y108_568) = c, (f109_1 F : Y109_1) = c, (f110_1 F : Y110_1) = c, (f110_568 F : Y110_568) = c, (f42_1_l12 F : Y42_1_l12) = c, (f42_1_l12_2 F : Y42_1_l12_2) = c; as_aux_lemma => kernel_rfl)))
theorem E42_1 (F : Nat) (d : sh42_1.den) (K : KF) : EB Tryz.prog (T42_1 F) (xw []) 77 4 (LT42_1 F) [2] false Tryz.f42 sh42_1 d K = A42_1 (f42_1 F) d K := by delta A42_1 f42_1 T42_1 S27_1 S90_1 S103_1 S105_1 S106_1 S107_1 S108_1 S108_568 S109_1 S110_1 S110_568 LT42_1;  delta G42_1_12; generalize (f27_1 F : Y27_1) = c, (f90_1 F : Y90_1) = c, (f103_1 F : Y103_1) = c, (f105_1 F : Y105_1) = c, (f106_1 F : Y106_1) = c, (f107_1 F : Y107_1) = c, (f108_1 F : Y108_1) = c, (f108_568 F : Y108_568) = c, (f109_1 F : Y109_1) = c, (f110_1 F : Y110_1) = c, (f110_568 F : Y110_568) = c, (f42_1_l12 F : Y42_1_l12) = c, (f42_1_l12_2 F : Y42_1_l12_2) = c; as_aux_lemma => kernel_rfl
theorem S42_1_ok : So Tryz.prog 42 S42_1 :=
  fun F o ho => sOf (fn := Tryz.f42) (c := code42) (tab_cons (S27_1_ok F _ (noS_sound enter27)) (tab_cons (S90_1_ok F _ (noS_sound enter90)) (tab_cons (S103_1_ok F _ (noS_sound enter103)) (tab_cons (S105_1_ok F _ (noS_sound enter105)) (tab_cons (S106_1_ok F _ (noS_sound enter106)) (tab_cons (S107_1_ok F _ (noS_sound enter107)) (tab_cons (S108_1_ok F _ (S108_568_ok F _ (noS_sound enter108))) (tab_cons (S109_1_ok F _ (noS_sound enter109)) (tab_cons (S110_1_ok F _ (S110_568_ok F _ (noS_sound enter110))) tab_nil))))))))) ho (by rw [loops42]; exact (loopsOK_cons (by kernel_rfl) (L42_1_12 F) loopsOK_nil)) snil rnil (E42_1 F)
end
section
noncomputable def f41_1_l3 {β : Type} (F : Nat) (v1 v3 : Int) (v4 : Bool) (v5 : Int) (v6 : List ByteArray) (v7 : List (Int × ByteArray)) (v8 v9 v10 v11 : Int) (K0 : List Int → Option β) : Nat → Int → List Int → Option β
  | 0, _, _ => none
  | k + 1, v2, v12 => cond (decide (v2 < v1)) (cond (decide ((v12.length + 1) * 8 ≤ 70368744177664)) (f41_1_l3 F v1 v3 v4 v5 v6 v7 v8 v9 v10 v11 K0 k (IntKind.i64.wrap (v2 + 1)) (v12 ++ [v2])) none) (K0 v12)
noncomputable def f41_1 {β : Type} (F : Nat) (a1 a2 a3 a4 a5 : Int) (a6 : Bool) (a7 : Int) (a8 : List ByteArray) (a9 : List (Int × ByteArray)) (K0 : ByteArray → Int → Int → Bool → Int → List ByteArray → List (Int × ByteArray) → Option β) : Option β := f41_1_l3 F (if 128 < (if 0 > a1 then 0 else a1) then 128 else (if 0 > a1 then 0 else a1)) a5 a6 a7 a8 a9 a1 a2 a3 a4 (fun x13 => f42_1 F a1 a2 a3 a4 a5 a6 a7 a8 a9 x13 (fun x14 x15 x16 x17 x18 x19 x20 => K0 x14 x15 x16 x17 x18 x19 x20) ) F 0 []
variable [FZ]
def sh41_1 : Sh := ⟨[.lf (.ptr 0 0), .agg [.int .i64, .int .i64, .int .i64, .int .i64]], [some ⟨some false, [.full 1, .full 2, .int .i64, .bool, .int .i64]⟩, some ⟨some false, [.seq .str 0]⟩, some ⟨some false, [.seq (.pair (.int .i64) .str) 0]⟩]⟩
abbrev Y41_1 := Int → Int → Int → Int → Int → Bool → Int → List ByteArray → List (Int × ByteArray) → (ByteArray → Int → Int → Bool → Int → List ByteArray → List (Int × ByteArray) → Option Res) → Option Res
noncomputable def A41_1 (g : Y41_1) (d : sh41_1.den) (K : KF) : Option Res := g d.1.2.1.1 d.1.2.1.2.1 d.1.2.1.2.2.1 d.1.2.1.2.2.2.1 d.2.1.2.2.2.1 d.2.1.2.2.2.2.1 d.2.1.2.2.2.2.2.1 d.2.2.1.2.1 d.2.2.2.1.2.1 (fun y0 y1 y2 y3 y4 y5 y6 => K [.lf (.str y0), .lf (.int .i64 y1)] [some ⟨false, [.full 1, .full 3, .int .i64 y2, .bool y3, .int .i64 y4]⟩, some ⟨false, [.seq .str 0 y5]⟩, none, some ⟨false, [.seq (.pair (.int .i64) .str) 0 y6]⟩])
noncomputable def S41_1 (F : Nat) (o : Summ) : Summ := mkS sh41_1 (fun d K => A41_1 (f41_1 F) d K) o
noncomputable def code41 : Code := bodyOf Tryz.f41
noncomputable def b41_0 : Code := cB (cB (cR (cL (cR (cR (code41))))))
theorem loops41 : loopsOf code41 = [b41_0] := by kernel_rfl
theorem enter41 : En Tryz.prog 41 := enO (fn := Tryz.f41)
noncomputable def T41_1 (F : Nat) : FuncId → Option Summ := tab [(42, (S42_1 F noS))]
def sh41_1_l3 : Sh := ⟨[.lf (.ptr 0 0), .lf (.ptr 3 0), .lf (.full 4), .lf (.int .i64), .lf (.int .i64)], [some ⟨some false, [.full 1, .full 2, .int .i64, .bool, .int .i64]⟩, some ⟨some false, [.seq .str 0]⟩, some ⟨some false, [.seq (.pair (.int .i64) .str) 0]⟩, some ⟨some false, [.int .i64, .int .i64, .int .i64, .int .i64]⟩, some ⟨some false, [.seq (.int .i64) 0]⟩]⟩
abbrev Y41_1_l3 := Int → Int → Bool → Int → List ByteArray → List (Int × ByteArray) → Int → Int → Int → Int → (List Int → Option Res) → Nat → Int → List Int → Option Res
noncomputable def A41_1_l3 (g : Y41_1_l3) (k : Nat) (d : sh41_1_l3.den) (K : KL) : Option Res := g d.1.2.2.2.1 d.2.1.2.2.2.1 d.2.1.2.2.2.2.1 d.2.1.2.2.2.2.2.1 d.2.2.1.2.1 d.2.2.2.1.2.1 d.2.2.2.2.1.2.1 d.2.2.2.2.1.2.2.1 d.2.2.2.2.1.2.2.2.1 d.2.2.2.2.1.2.2.2.2.1 (fun y9 => K (.exit 0) [.tv (.lf (.ptr 0 0)), .tv (.lf (.ptr 3 0)), .tv (.lf (.full 4))] [some ⟨false, [.full 1, .full 2, .int .i64 d.2.1.2.2.2.1, .bool d.2.1.2.2.2.2.1, .int .i64 d.2.1.2.2.2.2.2.1]⟩, some ⟨false, [.seq .str 0 d.2.2.1.2.1]⟩, some ⟨false, [.seq (.pair (.int .i64) .str) 0 d.2.2.2.1.2.1]⟩, some ⟨false, [.int .i64 d.2.2.2.2.1.2.1, .int .i64 d.2.2.2.2.1.2.2.1, .int .i64 d.2.2.2.2.1.2.2.2.1, .int .i64 d.2.2.2.2.1.2.2.2.2.1]⟩, some ⟨false, [.seq (.int .i64) 0 y9]⟩]) k d.1.2.2.2.2.1 d.2.2.2.2.2.1.2.1
noncomputable def G41_1_3 (F k : Nat) : LoopS := mkG sh41_1_l3 [0, 3, 6, 11, 12] (outT [(.exit 0, [0, 3, 6])]) (fun d K => A41_1_l3 (f41_1_l3 F) k d K) []
noncomputable def LT41_1 (F : Nat) : Nat → Option LoopS := ltab [(3, G41_1_3 F F)]
theorem L41_1_3 (F : Nat) : LoopOK Tryz.prog (T41_1 F) (xw []) 26 3 (LT41_1 F) (G41_1_3 F F) b41_0 :=
  loopOK_of (s := sh41_1_l3) (live := [0, 3, 6, 11, 12]) (out := (outT [(.exit 0, [0, 3, 6])])) (mv := []) (fun k d K => A41_1_l3 (f41_1_l3 F) k d K) F (fun d K => by kernel_rfl)  (fun k d K => by delta A41_1_l3; refine (f41_1_l3.eq_2 ..).trans ?_; delta T41_1 S42_1 LT41_1; generalize (G41_1_3 F F) = c;  (try delta G41_1_3); generalize (f42_1 F : Y42_1) = c, (f41_1_l3 F : Y41_1_l3) = c; as_aux_lemma => kernel_rfl)
theorem E41_1 (F : Nat) (d : sh41_1.den) (K : KF) : EB Tryz.prog (T41_1 F) (xw []) 26 3 (LT41_1 F) [2] false Tryz.f41 sh41_1 d K = A41_1 (f41_1 F) d K := by delta A41_1 f41_1 T41_1 S42_1 LT41_1;  delta G41_1_3; generalize (f42_1 F : Y42_1) = c, (f41_1_l3 F : Y41_1_l3) = c; as_aux_lemma => kernel_rfl
theorem S41_1_ok : So Tryz.prog 41 S41_1 :=
  fun F o ho => sOf (fn := Tryz.f41) (c := code41) (tab_cons (S42_1_ok F _ (noS_sound enter42)) tab_nil) ho (by rw [loops41]; exact (loopsOK_cons (by kernel_rfl) (L41_1_3 F) loopsOK_nil)) snil rnil (E41_1 F)
end
section
noncomputable def f160_2838_l3 {β : Type} (F : Nat) (v2 v4 v5 v6 v7 : Int) (v8 : List Bool) (K0 : Int → List ByteArray → Option β) (K1 : List ByteArray → Option β) : Nat → Int → List ByteArray → Option β
  | 0, _, _ => none
  | k + 1, v3, v9 => cond (decide (v3 < v2)) (f197_1 F ByteArray.empty (fun x10 => cond (decide ((0 : Int) ≤ v3 ∧ v3 < 256)) (cond (decide (v3.toNat < v8.length)) (cond (!(v8.getD v3.toNat false)) (f103_6615 F v4 v5 v6 v7 v3 (fun x11 => cond (x11 != 0) (K0 x11 v9) (cond (decide ((v9.length + 1) * 16 ≤ 70368744177664)) (f160_2838_l3 F v2 v4 v5 v6 v7 v8 K0 K1 k (IntKind.i64.wrap (v3 + 1)) (v9 ++ [ByteArray.empty])) none)) ) (cond (decide ((v9.length + 1) * 16 ≤ 70368744177664)) (f160_2838_l3 F v2 v4 v5 v6 v7 v8 K0 K1 k (IntKind.i64.wrap (v3 + 1)) (v9 ++ [x10])) none)) none) none) ) (K1 v9)
noncomputable def f160_2838 {β : Type} (F : Nat) (a1 a2 a3 a4 : Int) (a5 : List Bool) (K0 : Int → List ByteArray → Option β) : Option β := f111_1 F a1 a2 a3 a4 (fun x1 => f160_2838_l3 F x1 a1 a2 a3 a4 a5 (fun x12 x13 => K0 x12 []) (fun x14 => K0 0 x14) F 0 []) 
variable [FZ]
def sh160_2838 : Sh := ⟨[.lf (.nilp), .agg [.int .i64, .int .i64, .int .i64, .int .i64], .agg [.seq .bool 256]], []⟩
abbrev Y160_2838 := Int → Int → Int → Int → List Bool → (Int → List ByteArray → Option Res) → Option Res
noncomputable def A160_2838 (g : Y160_2838) (d : sh160_2838.den) (K : KF) : Option Res := g d.1.2.1.1 d.1.2.1.2.1 d.1.2.1.2.2.1 d.1.2.1.2.2.2.1 d.1.2.2.1.1 (fun y0 y1 => K [.lf (.full 0), .lf (.int .i64 y0)] [some ⟨false, [.seq .str 0 y1]⟩])
noncomputable def S160_2838 (F : Nat) (o : Summ) : Summ := mkS sh160_2838 (fun d K => A160_2838 (f160_2838 F) d K) o
noncomputable def T160_2838 (F : Nat) : FuncId → Option Summ := tab [(103, (S103_6615 F noS)), (111, (S111_1 F noS)), (197, (S197_1 F noS))]
def sh160_2838_l3 : Sh := ⟨[.lf (.nilp), .lf (.ptr 0 0), .lf (.ptr 1 0), .lf (.full 2), .lf (.int .i64), .lf (.int .i64)], [some ⟨some false, [.int .i64, .int .i64, .int .i64, .int .i64]⟩, some ⟨some false, [.seq .bool 256]⟩, some ⟨some false, [.seq .str 0]⟩]⟩
abbrev Y160_2838_l3 := Int → Int → Int → Int → Int → List Bool → (Int → List ByteArray → Option Res) → (List ByteArray → Option Res) → Nat → Int → List ByteArray → Option Res
noncomputable def A160_2838_l3 (g : Y160_2838_l3) (k : Nat) (d : sh160_2838_l3.den) (K : KL) : Option Res := g d.1.2.2.2.2.1 d.2.1.2.1 d.2.1.2.2.1 d.2.1.2.2.2.1 d.2.1.2.2.2.2.1 d.2.2.1.2.1 (fun y0 y6 => K .ret [.tv (.lf (.nils (some .str))), .tv (.lf (.int .i64 y0))] [some ⟨false, [.int .i64 d.2.1.2.1, .int .i64 d.2.1.2.2.1, .int .i64 d.2.1.2.2.2.1, .int .i64 d.2.1.2.2.2.2.1]⟩, some ⟨false, [.seq .bool 256 d.2.2.1.2.1]⟩, some ⟨false, [.seq .str 0 y6]⟩]) (fun y5 => K (.exit 0) [.tv (.lf (.full 2))] [some ⟨false, [.int .i64 d.2.1.2.1, .int .i64 d.2.1.2.2.1, .int .i64 d.2.1.2.2.2.1, .int .i64 d.2.1.2.2.2.2.1]⟩, some ⟨false, [.seq .bool 256 d.2.2.1.2.1]⟩, some ⟨false, [.seq .str 0 y5]⟩]) k d.1.2.2.2.2.2.1 d.2.2.2.1.2.1
noncomputable def G160_2838_3 (F k : Nat) : LoopS := mkG sh160_2838_l3 [0, 4, 5, 8, 13, 14] (outT [(.exit 0, [8]), (.ret, [6, 7])]) (fun d K => A160_2838_l3 (f160_2838_l3 F) k d K) []
noncomputable def LT160_2838 (F : Nat) : Nat → Option LoopS := ltab [(3, G160_2838_3 F F)]
theorem L160_2838_3 (F : Nat) : LoopOK Tryz.prog (T160_2838 F) (xw []) 38 0 (LT160_2838 F) (G160_2838_3 F F) b160_0 :=
  loopOK_of (s := sh160_2838_l3) (live := [0, 4, 5, 8, 13, 14]) (out := (outT [(.exit 0, [8]), (.ret, [6, 7])])) (mv := []) (fun k d K => A160_2838_l3 (f160_2838_l3 F) k d K) F (fun d K => by kernel_rfl)  (fun k d K => by delta A160_2838_l3; refine (f160_2838_l3.eq_2 ..).trans ?_; delta T160_2838 S103_6615 S111_1 S197_1 LT160_2838; generalize (G160_2838_3 F F) = c;  (try delta G160_2838_3); generalize (f103_6615 F : Y103_6615) = c, (f111_1 F : Y111_1) = c, (f197_1 F : Y197_1) = c, (f160_2838_l3 F : Y160_2838_l3) = c; as_aux_lemma => kernel_rfl)
theorem E160_2838 (F : Nat) (d : sh160_2838.den) (K : KF) : EB Tryz.prog (T160_2838 F) (xw []) 38 0 (LT160_2838 F) [] false Tryz.f160 sh160_2838 d K = A160_2838 (f160_2838 F) d K := by delta A160_2838 f160_2838 T160_2838 S103_6615 S111_1 S197_1 LT160_2838;  delta G160_2838_3; generalize (f103_6615 F : Y103_6615) = c, (f111_1 F : Y111_1) = c, (f197_1 F : Y197_1) = c, (f160_2838_l3 F : Y160_2838_l3) = c; as_aux_lemma => kernel_rfl
theorem S160_2838_ok : So Tryz.prog 160 S160_2838 :=
  fun F o ho => sOf (fn := Tryz.f160) (c := code160) (tab_cons (S103_6615_ok F _ (noS_sound enter103)) (tab_cons (S111_1_ok F _ (noS_sound enter111)) (tab_cons (S197_1_ok F _ (noS_sound enter197)) tab_nil))) ho (by rw [loops160]; exact (loopsOK_cons (by kernel_rfl) (L160_2838_3 F) loopsOK_nil)) snil rnil (E160_2838 F)
end
section
noncomputable def f107_2838_l8 {β : Type} (F : Nat) (v4 v6 v7 v8 v9 : Int) (v10 : List Bool) (K0 K1 : Option β) : Nat → Int → Option β
  | 0, _ => none
  | k + 1, v5 => cond (decide (v5 < v4)) (cond (decide ((0 : Int) ≤ v5 ∧ v5 < 256)) (cond (decide (v5.toNat < v10.length)) (cond (!(v10.getD v5.toNat false)) (f107_2838_l8 F v4 v6 v7 v8 v9 v10 K0 K1 k (IntKind.i64.wrap (v5 + 1))) (f129_1 F v6 v7 v8 v9 v5 (fun x11 => f37_6206 F x11 (K0) ) )) none) none) (K1)
noncomputable def f107_2838_l8_2 {β : Type} (F : Nat) (v13 v15 v16 v17 v18 : Int) (v19 : List Bool) (v20 v21 v22 v23 : Int) (v24 : List ByteArray) (K0 K1 : Option β) : Nat → Int → Option β
  | 0, _ => none
  | k + 1, v14 => cond (decide (v14 < v13)) (cond (decide ((0 : Int) ≤ v14 ∧ v14 < 256)) (cond (decide (v14.toNat < v19.length)) (cond (!(v19.getD v14.toNat false)) (f107_2838_l8_2 F v13 v15 v16 v17 v18 v19 v20 v21 v22 v23 v24 K0 K1 k (IntKind.i64.wrap (v14 + 1))) (f129_1 F v15 v16 v17 v18 v14 (fun x25 => f37_6206 F x25 (K0) ) )) none) none) (K1)
noncomputable def f107_2838 {β : Type} (F : Nat) (a1 a2 a3 a4 : Int) (a5 : List Bool) (K0 : Int → Option β) (K1 : List ByteArray → Option β) : Option β := f160_2838 F a1 a2 a3 a4 a5 (fun x1 x2 => cond (x1 != 0) (K0 x1) (f161_1 F a1 a2 a3 a4 x2 (fun x3 => cond (x3 != 0) (K0 x3) (f107_2838_l8 F a1 a1 a2 a3 a4 a5 (K0 1) (K0 0) F 0)) (fun x12 => f107_2838_l8_2 F a1 a1 a2 a3 a4 a5 a1 a2 a3 a4 x12 (K0 1) (K1 x12) F 0) )) 
variable [FZ]
def sh107_2838 : Sh := ⟨[.lf (.nilp), .agg [.int .i64, .int .i64, .int .i64, .int .i64], .agg [.seq .bool 256]], []⟩
abbrev Y107_2838 := Int → Int → Int → Int → List Bool → (Int → Option Res) → (List ByteArray → Option Res) → Option Res
noncomputable def A107_2838 (g : Y107_2838) (d : sh107_2838.den) (K : KF) : Option Res := g d.1.2.1.1 d.1.2.1.2.1 d.1.2.1.2.2.1 d.1.2.1.2.2.2.1 d.1.2.2.1.1 (fun y0 => K [.lf (.nilp), .lf (.int .i64 y0)] []) (fun y5 => K [.lf (.ptr 0 0), .lf (.int .i64 0)] [some ⟨false, [.int .i64 d.1.2.1.1, .int .i64 d.1.2.1.2.1, .int .i64 d.1.2.1.2.2.1, .int .i64 d.1.2.1.2.2.2.1, .full 1]⟩, some ⟨false, [.seq .str 0 y5]⟩])
noncomputable def S107_2838 (F : Nat) (o : Summ) : Summ := mkS sh107_2838 (fun d K => A107_2838 (f107_2838 F) d K) o
noncomputable def T107_2838 (F : Nat) : FuncId → Option Summ := tab [(37, (S37_6206 F noS)), (129, (S129_1 F noS)), (160, (S160_2838 F noS)), (161, (S161_1 F noS))]
def sh107_2838_l8 : Sh := ⟨[.lf (.nilp), .lf (.ptr 0 0), .lf (.ptr 1 0), .lf (.nilp), .lf (.int .i64), .lf (.int .i64)], [some ⟨some false, [.int .i64, .int .i64, .int .i64, .int .i64]⟩, some ⟨some false, [.seq .bool 256]⟩]⟩
abbrev Y107_2838_l8 := Int → Int → Int → Int → Int → List Bool → (Option Res) → (Option Res) → Nat → Int → Option Res
noncomputable def A107_2838_l8 (g : Y107_2838_l8) (k : Nat) (d : sh107_2838_l8.den) (K : KL) : Option Res := g d.1.2.2.2.2.1 d.2.1.2.1 d.2.1.2.2.1 d.2.1.2.2.2.1 d.2.1.2.2.2.2.1 d.2.2.1.2.1 (K .ret [.tv (.lf (.nilp)), .tv (.lf (.int .i64 1))] [some ⟨false, [.int .i64 d.2.1.2.1, .int .i64 d.2.1.2.2.1, .int .i64 d.2.1.2.2.2.1, .int .i64 d.2.1.2.2.2.2.1]⟩, some ⟨false, [.seq .bool 256 d.2.2.1.2.1]⟩]) (K (.exit 0) [.tv (.lf (.nilp))] [some ⟨false, [.int .i64 d.2.1.2.1, .int .i64 d.2.1.2.2.1, .int .i64 d.2.1.2.2.2.1, .int .i64 d.2.1.2.2.2.2.1]⟩, some ⟨false, [.seq .bool 256 d.2.2.1.2.1]⟩]) k d.1.2.2.2.2.2.1
def sh107_2838_l8_2 : Sh := ⟨[.lf (.nilp), .lf (.ptr 0 0), .lf (.ptr 1 0), .lf (.ptr 2 0), .lf (.int .i64), .lf (.int .i64)], [some ⟨some false, [.int .i64, .int .i64, .int .i64, .int .i64]⟩, some ⟨some false, [.seq .bool 256]⟩, some ⟨some false, [.int .i64, .int .i64, .int .i64, .int .i64, .full 3]⟩, some ⟨some false, [.seq .str 0]⟩]⟩
abbrev Y107_2838_l8_2 := Int → Int → Int → Int → Int → List Bool → Int → Int → Int → Int → List ByteArray → (Option Res) → (Option Res) → Nat → Int → Option Res
noncomputable def A107_2838_l8_2 (g : Y107_2838_l8_2) (k : Nat) (d : sh107_2838_l8_2.den) (K : KL) : Option Res := g d.1.2.2.2.2.1 d.2.1.2.1 d.2.1.2.2.1 d.2.1.2.2.2.1 d.2.1.2.2.2.2.1 d.2.2.1.2.1 d.2.2.2.1.2.1 d.2.2.2.1.2.2.1 d.2.2.2.1.2.2.2.1 d.2.2.2.1.2.2.2.2.1 d.2.2.2.2.1.2.1 (K .ret [.tv (.lf (.nilp)), .tv (.lf (.int .i64 1))] [some ⟨false, [.int .i64 d.2.1.2.1, .int .i64 d.2.1.2.2.1, .int .i64 d.2.1.2.2.2.1, .int .i64 d.2.1.2.2.2.2.1]⟩, some ⟨false, [.seq .bool 256 d.2.2.1.2.1]⟩, some ⟨false, [.int .i64 d.2.2.2.1.2.1, .int .i64 d.2.2.2.1.2.2.1, .int .i64 d.2.2.2.1.2.2.2.1, .int .i64 d.2.2.2.1.2.2.2.2.1, .full 3]⟩, some ⟨false, [.seq .str 0 d.2.2.2.2.1.2.1]⟩]) (K (.exit 0) [.tv (.lf (.ptr 2 0))] [some ⟨false, [.int .i64 d.2.1.2.1, .int .i64 d.2.1.2.2.1, .int .i64 d.2.1.2.2.2.1, .int .i64 d.2.1.2.2.2.2.1]⟩, some ⟨false, [.seq .bool 256 d.2.2.1.2.1]⟩, some ⟨false, [.int .i64 d.2.2.2.1.2.1, .int .i64 d.2.2.2.1.2.2.1, .int .i64 d.2.2.2.1.2.2.2.1, .int .i64 d.2.2.2.1.2.2.2.2.1, .full 3]⟩, some ⟨false, [.seq .str 0 d.2.2.2.2.1.2.1]⟩]) k d.1.2.2.2.2.2.1
noncomputable def G107_2838_8 (F k : Nat) : LoopS := orG sh107_2838_l8 (fun d K => A107_2838_l8 (f107_2838_l8 F) k d K) (mkG sh107_2838_l8_2 [0, 4, 5, 10, 35, 36] (outT [(.exit 0, [10]), (.ret, [6, 7])]) (fun d K => A107_2838_l8_2 (f107_2838_l8_2 F) k d K) [])
noncomputable def LT107_2838 (F : Nat) : Nat → Option LoopS := ltab [(8, G107_2838_8 F F)]
theorem L107_2838_8 (F : Nat) : LoopOK Tryz.prog (T107_2838 F) (xw []) 63 0 (LT107_2838 F) (G107_2838_8 F F) b107_0 :=
  loopOK_vers (G107_2838_8 F) F (fun k => ⟨rfl, rfl⟩) (verOK_cons (s := sh107_2838_l8) (all := (G107_2838_8 F)) (fun k d K => A107_2838_l8 (f107_2838_l8 F) k d K) (fun d K => by kernel_rfl) (fun k d K => by delta A107_2838_l8; refine (f107_2838_l8.eq_2 ..).trans ?_; delta T107_2838 S37_6206 S129_1 S160_2838 S161_1 LT107_2838; generalize (G107_2838_8 F F) = c;  (try delta G107_2838_8); generalize (f37_6206 F : Y37_6206) = c, (f129_1 F : Y129_1) = c, (f160_2838 F : Y160_2838) = c, (f161_1 F : Y161_1) = c, (f107_2838_l8 F : Y107_2838_l8) = c, (f107_2838_l8_2 F : Y107_2838_l8_2) = c; as_aux_lemma => kernel_rfl) (verOK_last (s := sh107_2838_l8_2) (live := [0, 4, 5, 10, 35, 36]) (out := (outT [(.exit 0, [10]), (.ret, [6, 7])])) (mv := []) (all := (G107_2838_8 F)) (fun k d K => A107_2838_l8_2 (f107_2838_l8_2 F) k d K) (fun d K => by kernel_rfl) (fun k d K => by delta A107_2838_l8_2; refine (f107_2838_l8_2.eq_2 ..).trans ?_; delta T107_2838 S37_6206 S129_1 S160_2838 S161_1 LT107_2838; generalize (G107_2838_8 F F) = c;  (try delta G107_2838_8); generalize (f37_6206 F : Y37_6206) = c, (f129_1 F : Y129_1) = c, (f160_2838 F : Y160_2838) = c, (f161_1 F : Y161_1) = c, (f107_2838_l8 F : Y107_2838_l8) = c, (f107_2838_l8_2 F : Y107_2838_l8_2) = c; as_aux_lemma => kernel_rfl)))
theorem E107_2838 (F : Nat) (d : sh107_2838.den) (K : KF) : EB Tryz.prog (T107_2838 F) (xw []) 63 0 (LT107_2838 F) [] false Tryz.f107 sh107_2838 d K = A107_2838 (f107_2838 F) d K := by delta A107_2838 f107_2838 T107_2838 S37_6206 S129_1 S160_2838 S161_1 LT107_2838;  delta G107_2838_8; generalize (f37_6206 F : Y37_6206) = c, (f129_1 F : Y129_1) = c, (f160_2838 F : Y160_2838) = c, (f161_1 F : Y161_1) = c, (f107_2838_l8 F : Y107_2838_l8) = c, (f107_2838_l8_2 F : Y107_2838_l8_2) = c; as_aux_lemma => kernel_rfl
theorem S107_2838_ok : So Tryz.prog 107 S107_2838 :=
  fun F o ho => sOf (fn := Tryz.f107) (c := code107) (tab_cons (S37_6206_ok F _ (noS_sound enter37)) (tab_cons (S129_1_ok F _ (noS_sound enter129)) (tab_cons (S160_2838_ok F _ (noS_sound enter160)) (tab_cons (S161_1_ok F _ (noS_sound enter161)) tab_nil)))) ho (by rw [loops107]; exact (loopsOK_cons (by kernel_rfl) (L107_2838_8 F) loopsOK_nil)) snil rnil (E107_2838 F)
end
section
noncomputable def f109_5089 {β : Type} (F : Nat) (a1 a2 a3 a4 a5 : Int) (a6 : ByteArray) (K0 : Int → Option β) : Option β := f155_1 F a1 a2 a3 a4 a5 (fun x1 => cond (decide (x1 < 0)) (K0 3) (f163_1 F a6 (fun x2 => cond (!x2) (K0 4) (f157_1 F a5 a6 (fun x3 => f94_1 F 6 x3 (fun x4 x5 => cond (x5 != 0) (K0 x5) (f24_1385 F x1 x4 (K0 1) )) ) )) )) 
variable [FZ]
def sh109_5089 : Sh := ⟨[.lf (.nilp), .agg [.int .i64, .int .i64, .int .i64, .int .i64], .lf (.int .i64), .lf (.str)], []⟩
abbrev Y109_5089 := Int → Int → Int → Int → Int → ByteArray → (Int → Option Res) → Option Res
noncomputable def A109_5089 (g : Y109_5089) (d : sh109_5089.den) (K : KF) : Option Res := g d.1.2.1.1 d.1.2.1.2.1 d.1.2.1.2.2.1 d.1.2.1.2.2.2.1 d.1.2.2.1 d.1.2.2.2.1 (fun y0 => K [.lf (.int .i64 y0)] [])
noncomputable def S109_5089 (F : Nat) (o : Summ) : Summ := mkS sh109_5089 (fun d K => A109_5089 (f109_5089 F) d K) o
noncomputable def T109_5089 (F : Nat) : FuncId → Option Summ := tab [(24, (S24_1385 F noS)), (94, (S94_1 F noS)), (155, (S155_1 F noS)), (157, (S157_1 F noS)), (163, (S163_1 F noS))]
noncomputable def LT109_5089 (F : Nat) : Nat → Option LoopS := ltab []
theorem E109_5089 (F : Nat) (d : sh109_5089.den) (K : KF) : EB Tryz.prog (T109_5089 F) (xw []) 36 0 (LT109_5089 F) [] false Tryz.f109 sh109_5089 d K = A109_5089 (f109_5089 F) d K := by delta A109_5089 f109_5089 T109_5089 S24_1385 S94_1 S155_1 S157_1 S163_1 LT109_5089;  generalize (f24_1385 F : Y24_1385) = c, (f94_1 F : Y94_1) = c, (f155_1 F : Y155_1) = c, (f157_1 F : Y157_1) = c, (f163_1 F : Y163_1) = c; as_aux_lemma => kernel_rfl
theorem S109_5089_ok : So Tryz.prog 109 S109_5089 :=
  fun F o ho => sOf (fn := Tryz.f109) (c := code109) (tab_cons (S24_1385_ok F _ (noS_sound enter24)) (tab_cons (S94_1_ok F _ (noS_sound enter94)) (tab_cons (S155_1_ok F _ (noS_sound enter155)) (tab_cons (S157_1_ok F _ (noS_sound enter157)) (tab_cons (S163_1_ok F _ (noS_sound enter163)) tab_nil))))) ho lnil snil rnil (E109_5089 F)
end
section
noncomputable def f27_568 {β : Type} (F : Nat)  (K0 : Option β) : Option β := K0
variable [FZ]
def sh27_568 : Sh := ⟨[.lf (.nilp)], []⟩
abbrev Y27_568 := (Option Res) → Option Res
noncomputable def A27_568 (g : Y27_568) (d : sh27_568.den) (K : KF) : Option Res := g (K [.lf (.int .i64 1)] [])
noncomputable def S27_568 (F : Nat) (o : Summ) : Summ := mkS sh27_568 (fun d K => A27_568 (f27_568 F) d K) o
noncomputable def T27_568 (F : Nat) : FuncId → Option Summ := tab []
noncomputable def LT27_568 (F : Nat) : Nat → Option LoopS := ltab []
theorem E27_568 (F : Nat) (d : sh27_568.den) (K : KF) : EB Tryz.prog (T27_568 F) (xw []) 40 0 (LT27_568 F) [] false Tryz.f27 sh27_568 d K = A27_568 (f27_568 F) d K := by delta A27_568 f27_568 T27_568 LT27_568;   as_aux_lemma => kernel_rfl
theorem S27_568_ok : So Tryz.prog 27 S27_568 :=
  fun F o ho => sOf (fn := Tryz.f27) (c := code27) tab_nil ho (by rw [loops27]; exact (loopsOK_skip (by kernel_rfl) loopsOK_nil)) snil rnil (E27_568 F)
end
section
noncomputable def f42_2949_l12 {β : Type} (F : Nat) (v8 : Int) (v10 : List Int) (v11 v12 v13 v14 : Int) (v15 : List Bool) (v16 : List ByteArray) (K0 : Int → Option β) (K1 : Option β) : Nat → Int → Option β
  | 0, _ => none
  | k + 1, v9 => cond (decide (v9 < v8)) (cond (decide ((0 : Int) ≤ v9 ∧ v9 < ((v16.length : Nat) : Int))) (cond (decide (0 + v9.toNat < v16.length)) (cond (decide ((0 : Int) ≤ v9 ∧ v9 < 256)) (cond (decide (v9.toNat < v15.length)) (cond (!(v15.getD v9.toNat false)) (f42_2949_l12 F v8 v10 v11 v12 v13 v14 v15 v16 K0 K1 k (IntKind.i64.wrap (v9 + 1))) (f109_5089 F v11 v12 v13 v14 v9 (v16.getD (0 + v9.toNat) ByteArray.empty) (fun x17 => cond (x17 != 0) (K0 x17) (f42_2949_l12 F v8 v10 v11 v12 v13 v14 v15 v16 K0 K1 k (IntKind.i64.wrap (v9 + 1)))) )) none) none) none) none) (K1)
noncomputable def f42_2949_l12_2 {β : Type} (F : Nat) (v21 : Int) (v23 : List Int) (v24 v25 v26 v27 : Int) (v28 : List Bool) (v29 v30 v31 v32 : Int) (v33 v34 : List ByteArray) (K0 : Int → Option β) (K1 : Option β) : Nat → Int → Option β
  | 0, _ => none
  | k + 1, v22 => cond (decide (v22 < v21)) (cond (decide ((0 : Int) ≤ v22 ∧ v22 < ((v34.length : Nat) : Int))) (cond (decide (0 + v22.toNat < v34.length)) (cond (decide ((0 : Int) ≤ v22 ∧ v22 < 256)) (cond (decide (v22.toNat < v28.length)) (cond (!(v28.getD v22.toNat false)) (f42_2949_l12_2 F v21 v23 v24 v25 v26 v27 v28 v29 v30 v31 v32 v33 v34 K0 K1 k (IntKind.i64.wrap (v22 + 1))) (f109_5089 F v24 v25 v26 v27 v22 (v34.getD (0 + v22.toNat) ByteArray.empty) (fun x35 => cond (x35 != 0) (K0 x35) (f42_2949_l12_2 F v21 v23 v24 v25 v26 v27 v28 v29 v30 v31 v32 v33 v34 K0 K1 k (IntKind.i64.wrap (v22 + 1)))) )) none) none) none) none) (K1)
noncomputable def f42_2949 {β : Type} (F : Nat) (a1 a2 a3 a4 : Int) (a5 : List Int) (K0 : Int → Option β) : Option β := f90_1 F a1 a2 a3 a4 (fun x1 => cond (!x1) (K0 12) (f105_1 F a1 a2 a3 a4 a5 (fun x2 x3 => cond (x3 != 0) (K0 x3) (cond (((a5.length : Nat) : Int) == 0) (f106_1 F a1 a2 a3 a4 (fun x4 => f103_6615 F a1 a2 a3 a4 x4 (fun x5 => K0 x5) ) ) (f107_2838 F a1 a2 a3 a4 x2 (fun x6 => cond (x6 != 0) (K0 x6) (f108_568 F  (fun x7 => f42_2949_l12 F ((x7.length : Nat) : Int) a5 a1 a2 a3 a4 x2 x7 (fun x18 => K0 x18) (f27_568 F  (K0 1) ) F 0) )) (fun x19 => f108_1 F a1 a2 a3 a4 x19 (fun x20 => f42_2949_l12_2 F ((x20.length : Nat) : Int) a5 a1 a2 a3 a4 x2 a1 a2 a3 a4 x19 x20 (fun x36 => K0 x36) (f27_568 F  (K0 1) ) F 0) ) ))) )) 
variable [FZ]
def sh42_2949 : Sh := ⟨[.lf (.nilp), .agg [.int .i64, .int .i64, .int .i64, .int .i64], .lf (.full 0)], [some ⟨none, [.seq (.int .i64) 0]⟩]⟩
abbrev Y42_2949 := Int → Int → Int → Int → List Int → (Int → Option Res) → Option Res
noncomputable def A42_2949 (g : Y42_2949) (d : sh42_2949.den) (K : KF) : Option Res := g d.1.2.1.1 d.1.2.1.2.1 d.1.2.1.2.2.1 d.1.2.1.2.2.2.1 d.2.1.2.1 (fun y1 => K [.lf (.str ByteArray.empty), .lf (.int .i64 y1)] [some ⟨d.2.1.1, [.seq (.int .i64) 0 d.2.1.2.1]⟩])
noncomputable def S42_2949 (F : Nat) (o : Summ) : Summ := mkS sh42_2949 (fun d K => A42_2949 (f42_2949 F) d K) o
noncomputable def T42_2949 (F : Nat) : FuncId → Option Summ := tab [(27, (S27_568 F noS)), (90, (S90_1 F noS)), (103, (S103_6615 F noS)), (105, (S105_1 F noS)), (106, (S106_1 F noS)), (107, (S107_2838 F noS)), (108, (S108_1 F (S108_568 F noS))), (109, (S109_5089 F noS))]
def sh42_2949_l12 : Sh := ⟨[.lf (.nilp), .lf (.ptr 1 0), .lf (.ptr 2 0), .lf (.nilp), .lf (.full 3), .lf (.int .i64), .lf (.int .i64)], [some ⟨none, [.seq (.int .i64) 0]⟩, some ⟨some false, [.int .i64, .int .i64, .int .i64, .int .i64]⟩, some ⟨some false, [.seq .bool 256]⟩, some ⟨some false, [.seq .str 0]⟩]⟩
abbrev Y42_2949_l12 := Int → List Int → Int → Int → Int → Int → List Bool → List ByteArray → (Int → Option Res) → (Option Res) → Nat → Int → Option Res
noncomputable def A42_2949_l12 (g : Y42_2949_l12) (k : Nat) (d : sh42_2949_l12.den) (K : KL) : Option Res := g d.1.2.2.2.2.2.1 d.2.1.2.1 d.2.2.1.2.1 d.2.2.1.2.2.1 d.2.2.1.2.2.2.1 d.2.2.1.2.2.2.2.1 d.2.2.2.1.2.1 d.2.2.2.2.1.2.1 (fun y1 => K .ret [.tv (.lf (.str ByteArray.empty)), .tv (.lf (.int .i64 y1))] [some ⟨d.2.1.1, [.seq (.int .i64) 0 d.2.1.2.1]⟩, some ⟨false, [.int .i64 d.2.2.1.2.1, .int .i64 d.2.2.1.2.2.1, .int .i64 d.2.2.1.2.2.2.1, .int .i64 d.2.2.1.2.2.2.2.1]⟩, some ⟨false, [.seq .bool 256 d.2.2.2.1.2.1]⟩, some ⟨false, [.seq .str 0 d.2.2.2.2.1.2.1]⟩]) (K (.exit 1) [.tv (.lf (.nilp)), .tv (.lf (.nilp))] [some ⟨d.2.1.1, [.seq (.int .i64) 0 d.2.1.2.1]⟩, some ⟨false, [.int .i64 d.2.2.1.2.1, .int .i64 d.2.2.1.2.2.1, .int .i64 d.2.2.1.2.2.2.1, .int .i64 d.2.2.1.2.2.2.2.1]⟩, some ⟨false, [.seq .bool 256 d.2.2.2.1.2.1]⟩, some ⟨false, [.seq .str 0 d.2.2.2.2.1.2.1]⟩]) k d.1.2.2.2.2.2.2.1
def sh42_2949_l12_2 : Sh := ⟨[.lf (.nilp), .lf (.ptr 1 0), .lf (.ptr 2 0), .lf (.ptr 3 0), .lf (.full 5), .lf (.int .i64), .lf (.int .i64)], [some ⟨none, [.seq (.int .i64) 0]⟩, some ⟨some false, [.int .i64, .int .i64, .int .i64, .int .i64]⟩, some ⟨some false, [.seq .bool 256]⟩, some ⟨some false, [.int .i64, .int .i64, .int .i64, .int .i64, .full 4]⟩, some ⟨some false, [.seq .str 0]⟩, some ⟨some false, [.seq .str 0]⟩]⟩
abbrev Y42_2949_l12_2 := Int → List Int → Int → Int → Int → Int → List Bool → Int → Int → Int → Int → List ByteArray → List ByteArray → (Int → Option Res) → (Option Res) → Nat → Int → Option Res
noncomputable def A42_2949_l12_2 (g : Y42_2949_l12_2) (k : Nat) (d : sh42_2949_l12_2.den) (K : KL) : Option Res := g d.1.2.2.2.2.2.1 d.2.1.2.1 d.2.2.1.2.1 d.2.2.1.2.2.1 d.2.2.1.2.2.2.1 d.2.2.1.2.2.2.2.1 d.2.2.2.1.2.1 d.2.2.2.2.1.2.1 d.2.2.2.2.1.2.2.1 d.2.2.2.2.1.2.2.2.1 d.2.2.2.2.1.2.2.2.2.1 d.2.2.2.2.2.1.2.1 d.2.2.2.2.2.2.1.2.1 (fun y1 => K .ret [.tv (.lf (.str ByteArray.empty)), .tv (.lf (.int .i64 y1))] [some ⟨d.2.1.1, [.seq (.int .i64) 0 d.2.1.2.1]⟩, some ⟨false, [.int .i64 d.2.2.1.2.1, .int .i64 d.2.2.1.2.2.1, .int .i64 d.2.2.1.2.2.2.1, .int .i64 d.2.2.1.2.2.2.2.1]⟩, some ⟨false, [.seq .bool 256 d.2.2.2.1.2.1]⟩, some ⟨false, [.int .i64 d.2.2.2.2.1.2.1, .int .i64 d.2.2.2.2.1.2.2.1, .int .i64 d.2.2.2.2.1.2.2.2.1, .int .i64 d.2.2.2.2.1.2.2.2.2.1, .full 4]⟩, some ⟨false, [.seq .str 0 d.2.2.2.2.2.1.2.1]⟩, some ⟨false, [.seq .str 0 d.2.2.2.2.2.2.1.2.1]⟩]) (K (.exit 1) [.tv (.lf (.nilp)), .tv (.lf (.ptr 3 0))] [some ⟨d.2.1.1, [.seq (.int .i64) 0 d.2.1.2.1]⟩, some ⟨false, [.int .i64 d.2.2.1.2.1, .int .i64 d.2.2.1.2.2.1, .int .i64 d.2.2.1.2.2.2.1, .int .i64 d.2.2.1.2.2.2.2.1]⟩, some ⟨false, [.seq .bool 256 d.2.2.2.1.2.1]⟩, some ⟨false, [.int .i64 d.2.2.2.2.1.2.1, .int .i64 d.2.2.2.2.1.2.2.1, .int .i64 d.2.2.2.2.1.2.2.2.1, .int .i64 d.2.2.2.2.1.2.2.2.2.1, .full 4]⟩, some ⟨false, [.seq .str 0 d.2.2.2.2.2.1.2.1]⟩, some ⟨false, [.seq .str 0 d.2.2.2.2.2.2.1.2.1]⟩]) k d.1.2.2.2.2.2.2.1
noncomputable def G42_2949_12 (F k : Nat) : LoopS := orG sh42_2949_l12 (fun d K => A42_2949_l12 (f42_2949_l12 F) k d K) (mkG sh42_2949_l12_2 [0, 4, 8, 10, 50, 51, 52] (outT [(.exit 1, [0, 10]), (.ret, [6, 7])]) (fun d K => A42_2949_l12_2 (f42_2949_l12_2 F) k d K) [])
noncomputable def LT42_2949 (F : Nat) : Nat → Option LoopS := ltab [(12, G42_2949_12 F F)]
theorem L42_2949_12 (F : Nat) : LoopOK Tryz.prog (T42_2949 F) (xw []) 77 1 (LT42_2949 F) (G42_2949_12 F F) b42_0 :=
  loopOK_vers (G42_2949_12 F) F (fun k => ⟨rfl, rfl⟩) (verOK_cons (s := sh42_2949_l12) (all := (G42_2949_12 F)) (fun k d K => A42_2949_l12 (f42_2949_l12 F) k d K) (fun d K => by kernel_rfl) (fun k d K => by delta A42_2949_l12; refine (f42_2949_l12.eq_2 ..).trans ?_; delta T42_2949 S27_568 S90_1 S103_6615 S105_1 S106_1 S107_2838 S108_1 S108_568 S109_5089 LT42_2949; generalize (G42_2949_12 F F) = c;  (try delta G42_2949_12); generalize (f27_568 F : Y27_568) = c, (f90_1 F : Y90_1) = c, (f103_6615 F : Y103_6615) = c, (f105_1 F : Y105_1) = c, (f106_1 F : Y106_1) = c, (f107_2838 F : Y107_2838) = c, (f108_1 F : Y108_1) = c, (f108_568 F : Y108_568) = c, (f109_5089 F : Y109_5089) = c, (f42_2949_l12 F : Y42_2949_l12) = c, (f42_2949_l12_2 F : Y42_2949_l12_2) = c; as_aux_lemma => kernel_rfl) (verOK_last (s := sh42_2949_l12_2) (live := [0, 4, 8, 10, 50, 51, 52]) (out := (outT [(.exit 1, [0, 10]), (.ret, [6, 7])])) (mv := []) (all := (G42_2949_12 F)) (fun k d K => A42_2949_l12_2 (f42_2949_l12_2 F) k d K) (fun d K => by kernel_rfl) (fun k d K => by delta A42_2949_l12_2; refine (f42_2949_l12_2.eq_2 ..).trans ?_; delta T42_2949 S27_568 S90_1 S103_6615 S105_1 S106_1 S107_2838 S108_1 S108_568 S109_5089 LT42_2949; generalize (G42_2949_12 F F) = c;  (try delta G42_2949_12); generalize (f27_568 F : Y27_568) = c, (f90_1 F : Y90_1) = c, (f103_6615 F : Y103_6615) = c, (f105_1 F : Y105_1) = c, (f106_1 F : Y106_1) = c, (f107_2838 F : Y107_2838) = c, (f108_1 F : Y108_1) = c, (f108_568 F : Y108_568) = c, (f109_5089 F : Y109_5089) = c, (f42_2949_l12 F : Y42_2949_l12) = c, (f42_2949_l12_2 F : Y42_2949_l12_2) = c; as_aux_lemma => kernel_rfl)))
theorem E42_2949 (F : Nat) (d : sh42_2949.den) (K : KF) : EB Tryz.prog (T42_2949 F) (xw []) 77 1 (LT42_2949 F) [] false Tryz.f42 sh42_2949 d K = A42_2949 (f42_2949 F) d K := by delta A42_2949 f42_2949 T42_2949 S27_568 S90_1 S103_6615 S105_1 S106_1 S107_2838 S108_1 S108_568 S109_5089 LT42_2949;  delta G42_2949_12; generalize (f27_568 F : Y27_568) = c, (f90_1 F : Y90_1) = c, (f103_6615 F : Y103_6615) = c, (f105_1 F : Y105_1) = c, (f106_1 F : Y106_1) = c, (f107_2838 F : Y107_2838) = c, (f108_1 F : Y108_1) = c, (f108_568 F : Y108_568) = c, (f109_5089 F : Y109_5089) = c, (f42_2949_l12 F : Y42_2949_l12) = c, (f42_2949_l12_2 F : Y42_2949_l12_2) = c; as_aux_lemma => kernel_rfl
theorem S42_2949_ok : So Tryz.prog 42 S42_2949 :=
  fun F o ho => sOf (fn := Tryz.f42) (c := code42) (tab_cons (S27_568_ok F _ (noS_sound enter27)) (tab_cons (S90_1_ok F _ (noS_sound enter90)) (tab_cons (S103_6615_ok F _ (noS_sound enter103)) (tab_cons (S105_1_ok F _ (noS_sound enter105)) (tab_cons (S106_1_ok F _ (noS_sound enter106)) (tab_cons (S107_2838_ok F _ (noS_sound enter107)) (tab_cons (S108_1_ok F _ (S108_568_ok F _ (noS_sound enter108))) (tab_cons (S109_5089_ok F _ (noS_sound enter109)) tab_nil)))))))) ho (by rw [loops42]; exact (loopsOK_cons (by kernel_rfl) (L42_2949_12 F) loopsOK_nil)) snil rnil (E42_2949 F)
end
section
noncomputable def f41_5478_l3 {β : Type} (F : Nat) (v1 v3 v4 v5 v6 : Int) (K0 : List Int → Option β) : Nat → Int → List Int → Option β
  | 0, _, _ => none
  | k + 1, v2, v7 => cond (decide (v2 < v1)) (cond (decide ((v7.length + 1) * 8 ≤ 70368744177664)) (f41_5478_l3 F v1 v3 v4 v5 v6 K0 k (IntKind.i64.wrap (v2 + 1)) (v7 ++ [v2])) none) (K0 v7)
noncomputable def f41_5478 {β : Type} (F : Nat) (a1 a2 a3 a4 : Int) (K0 : Int → Option β) : Option β := f41_5478_l3 F (if 128 < (if 0 > a1 then 0 else a1) then 128 else (if 0 > a1 then 0 else a1)) a1 a2 a3 a4 (fun x8 => f42_2949 F a1 a2 a3 a4 x8 (fun x9 => K0 x9) ) F 0 []
variable [FZ]
def sh41_5478 : Sh := ⟨[.lf (.nilp), .agg [.int .i64, .int .i64, .int .i64, .int .i64]], []⟩
abbrev Y41_5478 := Int → Int → Int → Int → (Int → Option Res) → Option Res
noncomputable def A41_5478 (g : Y41_5478) (d : sh41_5478.den) (K : KF) : Option Res := g d.1.2.1.1 d.1.2.1.2.1 d.1.2.1.2.2.1 d.1.2.1.2.2.2.1 (fun y1 => K [.lf (.str ByteArray.empty), .lf (.int .i64 y1)] [])
noncomputable def S41_5478 (F : Nat) (o : Summ) : Summ := mkS sh41_5478 (fun d K => A41_5478 (f41_5478 F) d K) o
noncomputable def T41_5478 (F : Nat) : FuncId → Option Summ := tab [(42, (S42_2949 F noS))]
def sh41_5478_l3 : Sh := ⟨[.lf (.nilp), .lf (.ptr 0 0), .lf (.full 1), .lf (.int .i64), .lf (.int .i64)], [some ⟨some false, [.int .i64, .int .i64, .int .i64, .int .i64]⟩, some ⟨some false, [.seq (.int .i64) 0]⟩]⟩
abbrev Y41_5478_l3 := Int → Int → Int → Int → Int → (List Int → Option Res) → Nat → Int → List Int → Option Res
noncomputable def A41_5478_l3 (g : Y41_5478_l3) (k : Nat) (d : sh41_5478_l3.den) (K : KL) : Option Res := g d.1.2.2.2.1 d.2.1.2.1 d.2.1.2.2.1 d.2.1.2.2.2.1 d.2.1.2.2.2.2.1 (fun y4 => K (.exit 0) [.tv (.lf (.nilp)), .tv (.lf (.ptr 0 0)), .tv (.lf (.full 1))] [some ⟨false, [.int .i64 d.2.1.2.1, .int .i64 d.2.1.2.2.1, .int .i64 d.2.1.2.2.2.1, .int .i64 d.2.1.2.2.2.2.1]⟩, some ⟨false, [.seq (.int .i64) 0 y4]⟩]) k d.1.2.2.2.2.1 d.2.2.1.2.1
noncomputable def G41_5478_3 (F k : Nat) : LoopS := mkG sh41_5478_l3 [0, 3, 6, 11, 12] (outT [(.exit 0, [0, 3, 6])]) (fun d K => A41_5478_l3 (f41_5478_l3 F) k d K) []
noncomputable def LT41_5478 (F : Nat) : Nat → Option LoopS := ltab [(3, G41_5478_3 F F)]
theorem L41_5478_3 (F : Nat) : LoopOK Tryz.prog (T41_5478 F) (xw []) 26 0 (LT41_5478 F) (G41_5478_3 F F) b41_0 :=
  loopOK_of (s := sh41_5478_l3) (live := [0, 3, 6, 11, 12]) (out := (outT [(.exit 0, [0, 3, 6])])) (mv := []) (fun k d K => A41_5478_l3 (f41_5478_l3 F) k d K) F (fun d K => by kernel_rfl)  (fun k d K => by delta A41_5478_l3; refine (f41_5478_l3.eq_2 ..).trans ?_; delta T41_5478 S42_2949 LT41_5478; generalize (G41_5478_3 F F) = c;  (try delta G41_5478_3); generalize (f42_2949 F : Y42_2949) = c, (f41_5478_l3 F : Y41_5478_l3) = c; as_aux_lemma => kernel_rfl)
theorem E41_5478 (F : Nat) (d : sh41_5478.den) (K : KF) : EB Tryz.prog (T41_5478 F) (xw []) 26 0 (LT41_5478 F) [] false Tryz.f41 sh41_5478 d K = A41_5478 (f41_5478 F) d K := by delta A41_5478 f41_5478 T41_5478 S42_2949 LT41_5478;  delta G41_5478_3; generalize (f42_2949 F : Y42_2949) = c, (f41_5478_l3 F : Y41_5478_l3) = c; as_aux_lemma => kernel_rfl
theorem S41_5478_ok : So Tryz.prog 41 S41_5478 :=
  fun F o ho => sOf (fn := Tryz.f41) (c := code41) (tab_cons (S42_2949_ok F _ (noS_sound enter42)) tab_nil) ho (by rw [loops41]; exact (loopsOK_cons (by kernel_rfl) (L41_5478_3 F) loopsOK_nil)) snil rnil (E41_5478 F)
end
section
noncomputable def f26_1_l3 {β : Type} (F : Nat) (v1 : Int) (K0 : List Int → Option β) : Nat → Int → List Int → Option β
  | 0, _, _ => none
  | k + 1, v2, v3 => cond (decide (v2 < 64)) (cond (decide ((v3.length + 1) * 1 ≤ 70368744177664)) (f26_1_l3 F v1 K0 k (IntKind.i64.wrap (v2 + 1)) (v3 ++ [v1])) none) (K0 v3)
noncomputable def f26_1 {β : Type} (F : Nat) (a1 : Int) (K0 : ByteArray → Option β) : Option β := f26_1_l3 F a1 (fun x4 => K0 (ofInts x4)) F 0 []
variable [FZ]
def sh26_1 : Sh := ⟨[.lf (.int .u8)], []⟩
abbrev Y26_1 := Int → (ByteArray → Option Res) → Option Res
noncomputable def A26_1 (g : Y26_1) (d : sh26_1.den) (K : KF) : Option Res := g d.1.1 (fun y0 => K [.lf (.str y0)] [])
noncomputable def S26_1 (F : Nat) (o : Summ) : Summ := mkS sh26_1 (fun d K => A26_1 (f26_1 F) d K) o
noncomputable def code26 : Code := bodyOf Tryz.f26
noncomputable def b26_0 : Code := cB (cB (cR (cL (cR (cR (code26))))))
theorem loops26 : loopsOf code26 = [b26_0] := by kernel_rfl
theorem enter26 : En Tryz.prog 26 := enO (fn := Tryz.f26)
noncomputable def T26_1 (F : Nat) : FuncId → Option Summ := tab []
def sh26_1_l3 : Sh := ⟨[.lf (.int .u8), .lf (.full 0), .lf (.int .i64)], [some ⟨some false, [.seq (.int .u8) 0]⟩]⟩
abbrev Y26_1_l3 := Int → (List Int → Option Res) → Nat → Int → List Int → Option Res
noncomputable def A26_1_l3 (g : Y26_1_l3) (k : Nat) (d : sh26_1_l3.den) (K : KL) : Option Res := g d.1.1 (fun y0 => K (.exit 0) [.tv (.lf (.full 0))] [some ⟨false, [.seq (.int .u8) 0 y0]⟩]) k d.1.2.2.1 d.2.1.2.1
noncomputable def G26_1_3 (F k : Nat) : LoopS := mkG sh26_1_l3 [0, 3, 4] (outT [(.exit 0, [3])]) (fun d K => A26_1_l3 (f26_1_l3 F) k d K) []
noncomputable def LT26_1 (F : Nat) : Nat → Option LoopS := ltab [(3, G26_1_3 F F)]
theorem L26_1_3 (F : Nat) : LoopOK Tryz.prog (T26_1 F) (xw []) 15 0 (LT26_1 F) (G26_1_3 F F) b26_0 :=
  loopOK_of (s := sh26_1_l3) (live := [0, 3, 4]) (out := (outT [(.exit 0, [3])])) (mv := []) (fun k d K => A26_1_l3 (f26_1_l3 F) k d K) F (fun d K => by kernel_rfl)  (fun k d K => by delta A26_1_l3; refine (f26_1_l3.eq_2 ..).trans ?_; delta T26_1 LT26_1; generalize (G26_1_3 F F) = c;  (try delta G26_1_3); generalize (f26_1_l3 F : Y26_1_l3) = c; as_aux_lemma => kernel_rfl)
theorem E26_1 (F : Nat) (d : sh26_1.den) (K : KF) : EB Tryz.prog (T26_1 F) (xw []) 15 0 (LT26_1 F) [] false Tryz.f26 sh26_1 d K = A26_1 (f26_1 F) d K := by delta A26_1 f26_1 T26_1 LT26_1;  delta G26_1_3; generalize (f26_1_l3 F : Y26_1_l3) = c; as_aux_lemma => kernel_rfl
theorem S26_1_ok : So Tryz.prog 26 S26_1 :=
  fun F o ho => sOf (fn := Tryz.f26) (c := code26) tab_nil ho (by rw [loops26]; exact (loopsOK_cons (by kernel_rfl) (L26_1_3 F) loopsOK_nil)) snil rnil (E26_1 F)
end
section
noncomputable def f54_1 {β : Type} (F : Nat)  (K0 : ByteArray → Option β) : Option β := f26_1 F 0 (fun x1 => K0 x1) 
variable [FZ]
def sh54_1 : Sh := ⟨[], []⟩
abbrev Y54_1 := (ByteArray → Option Res) → Option Res
noncomputable def A54_1 (g : Y54_1) (d : sh54_1.den) (K : KF) : Option Res := g (fun y0 => K [.lf (.str y0)] [])
noncomputable def S54_1 (F : Nat) (o : Summ) : Summ := mkS sh54_1 (fun d K => A54_1 (f54_1 F) d K) o
noncomputable def code54 : Code := bodyOf Tryz.f54
theorem enter54 : En Tryz.prog 54 := enO (fn := Tryz.f54)
noncomputable def T54_1 (F : Nat) : FuncId → Option Summ := tab [(26, (S26_1 F noS))]
noncomputable def LT54_1 (F : Nat) : Nat → Option LoopS := ltab []
theorem E54_1 (F : Nat) (d : sh54_1.den) (K : KF) : EB Tryz.prog (T54_1 F) (xw []) 2 0 (LT54_1 F) [] false Tryz.f54 sh54_1 d K = A54_1 (f54_1 F) d K := by delta A54_1 f54_1 T54_1 S26_1 LT54_1;  generalize (f26_1 F : Y26_1) = c; as_aux_lemma => kernel_rfl
theorem S54_1_ok : So Tryz.prog 54 S54_1 :=
  fun F o ho => sOf (fn := Tryz.f54) (c := code54) (tab_cons (S26_1_ok F _ (noS_sound enter26)) tab_nil) ho lnil snil rnil (E54_1 F)
end
section
noncomputable def f40_1 {β : Type} (F : Nat)  (K0 : Bool → Option β) : Option β := f23_1 F 1 2 0 1 1 (fun x1 => f12_1 F x1 (f41_5478 F 1 2 0 1 (fun x2 => f103_6615 F 1 2 0 1 0 (fun x3 => f103_6615 F 1 2 0 1 1 (fun x4 => f54_1 F  (fun x5 => f104_1 F x5 (fun x6 => cond (ByteArray.empty.toList == x6.toList) (cond (x2 == 0) (cond (x3 == 0) (cond (x4 == 3) (f16_568 F  (K0 false) ) (K0 false)) (K0 false)) (K0 false)) (K0 false)) ) ) ) ) ) (fun x7 x8 => f41_1 F 1 2 0 1 (-1) false 0 x7 x8 (fun x9 x10 x11 x12 x13 x14 x15 => f103_1 F 1 2 0 1 0 x11 x12 x13 x14 x15 (fun x16 x17 => f103_1 F 1 2 0 1 1 x11 x12 x13 x14 x15 (fun x18 x19 => f54_1 F  (fun x20 => f104_1 F x20 (fun x21 => cond (x9.toList == x21.toList) (cond (x10 == 0) (cond (x16.toList == x9.toList) (cond (x17 == 0) (cond (x19 == 3) (f16_1 F x11 x12 x13 x14 x15 (K0 (x13 == 2)) ) (K0 false)) (K0 false)) (K0 false)) (K0 false)) (K0 false)) ) ) ) ) ) ) 
variable [FZ]
def sh40_1 : Sh := ⟨[], []⟩
abbrev Y40_1 := (Bool → Option Res) → Option Res
noncomputable def A40_1 (g : Y40_1) (d : sh40_1.den) (K : KF) : Option Res := g (fun y0 => K [.lf (.bool y0)] [])
noncomputable def S40_1 (F : Nat) (o : Summ) : Summ := mkS sh40_1 (fun d K => A40_1 (f40_1 F) d K) o
noncomputable def code40 : Code := bodyOf Tryz.f40
theorem enter40 : En Tryz.prog 40 := enO (fn := Tryz.f40)
noncomputable def T40_1 (F : Nat) : FuncId → Option Summ := tab [(12, (S12_1 F noS)), (16, (S16_1 F (S16_568 F noS))), (23, (S23_1 F noS)), (41, (S41_1 F (S41_5478 F noS))), (54, (S54_1 F noS)), (103, (S103_1 F (S103_6615 F noS))), (104, (S104_1 F noS))]
noncomputable def LT40_1 (F : Nat) : Nat → Option LoopS := ltab []
theorem E40_1 (F : Nat) (d : sh40_1.den) (K : KF) : EB Tryz.prog (T40_1 F) (xw []) 61 0 (LT40_1 F) [] false Tryz.f40 sh40_1 d K = A40_1 (f40_1 F) d K := by delta A40_1 f40_1 T40_1 S12_1 S16_1 S16_568 S23_1 S41_1 S41_5478 S54_1 S103_1 S103_6615 S104_1 LT40_1;  generalize (f12_1 F : Y12_1) = c, (f16_1 F : Y16_1) = c, (f16_568 F : Y16_568) = c, (f23_1 F : Y23_1) = c, (f41_1 F : Y41_1) = c, (f41_5478 F : Y41_5478) = c, (f54_1 F : Y54_1) = c, (f103_1 F : Y103_1) = c, (f103_6615 F : Y103_6615) = c, (f104_1 F : Y104_1) = c; as_aux_lemma => kernel_rfl
theorem S40_1_ok : So Tryz.prog 40 S40_1 :=
  fun F o ho => sOf (fn := Tryz.f40) (c := code40) (tab_cons (S12_1_ok F _ (noS_sound enter12)) (tab_cons (S16_1_ok F _ (S16_568_ok F _ (noS_sound enter16))) (tab_cons (S23_1_ok F _ (noS_sound enter23)) (tab_cons (S41_1_ok F _ (S41_5478_ok F _ (noS_sound enter41))) (tab_cons (S54_1_ok F _ (noS_sound enter54)) (tab_cons (S103_1_ok F _ (S103_6615_ok F _ (noS_sound enter103))) (tab_cons (S104_1_ok F _ (noS_sound enter104)) tab_nil))))))) ho lnil snil rnil (E40_1 F)
end
section
noncomputable def f43_1_l5 {β : Type} (F : Nat) (v3 v5 : Int) (v6 : Bool) (v7 : Int) (v8 : List ByteArray) (v9 : List (Int × ByteArray)) (v10 v11 v12 v13 : Int) (K0 : Int → List ByteArray → Option β) (K1 : List ByteArray → Option β) : Nat → Int → List ByteArray → Option β
  | 0, _, _ => none
  | k + 1, v4, v14 => cond (decide (v4 < v3)) (f103_1 F v10 v11 v12 v13 v4 v5 v6 v7 v8 v9 (fun x15 x16 => cond (x16 != 0) (K0 x16 v14) (cond (decide ((v14.length + 1) * 16 ≤ 70368744177664)) (f43_1_l5 F v3 v5 v6 v7 v8 v9 v10 v11 v12 v13 K0 K1 k (IntKind.i64.wrap (v4 + 1)) (v14 ++ [x15])) none)) ) (K1 v14)
noncomputable def f43_1 {β : Type} (F : Nat) (a1 a2 a3 a4 a5 : Int) (a6 : Bool) (a7 : Int) (a8 : List ByteArray) (a9 : List (Int × ByteArray)) (K0 : Int → List ByteArray → Option β) : Option β := f90_1 F a1 a2 a3 a4 (fun x1 => cond (!x1) (K0 12 []) (f111_1 F a1 a2 a3 a4 (fun x2 => f43_1_l5 F x2 a5 a6 a7 a8 a9 a1 a2 a3 a4 (fun x17 x18 => K0 x17 []) (fun x19 => K0 0 x19) F 0 []) )) 
variable [FZ]
def sh43_1 : Sh := ⟨[.lf (.ptr 0 0), .agg [.int .i64, .int .i64, .int .i64, .int .i64]], [some ⟨none, [.full 1, .full 2, .int .i64, .bool, .int .i64]⟩, some ⟨none, [.seq .str 0]⟩, some ⟨none, [.seq (.pair (.int .i64) .str) 0]⟩]⟩
abbrev Y43_1 := Int → Int → Int → Int → Int → Bool → Int → List ByteArray → List (Int × ByteArray) → (Int → List ByteArray → Option Res) → Option Res
noncomputable def A43_1 (g : Y43_1) (d : sh43_1.den) (K : KF) : Option Res := g d.1.2.1.1 d.1.2.1.2.1 d.1.2.1.2.2.1 d.1.2.1.2.2.2.1 d.2.1.2.2.2.1 d.2.1.2.2.2.2.1 d.2.1.2.2.2.2.2.1 d.2.2.1.2.1 d.2.2.2.1.2.1 (fun y0 y6 => K [.lf (.full 3), .lf (.int .i64 y0)] [some ⟨d.2.1.1, [.full 1, .full 2, .int .i64 d.2.1.2.2.2.1, .bool d.2.1.2.2.2.2.1, .int .i64 d.2.1.2.2.2.2.2.1]⟩, some ⟨d.2.2.1.1, [.seq .str 0 d.2.2.1.2.1]⟩, some ⟨d.2.2.2.1.1, [.seq (.pair (.int .i64) .str) 0 d.2.2.2.1.2.1]⟩, some ⟨false, [.seq .str 0 y6]⟩])
noncomputable def S43_1 (F : Nat) (o : Summ) : Summ := mkS sh43_1 (fun d K => A43_1 (f43_1 F) d K) o
noncomputable def code43 : Code := bodyOf Tryz.f43
noncomputable def b43_0 : Code := cB (cB (cR (cL (cR (cR (cR (code43)))))))
theorem loops43 : loopsOf code43 = [b43_0] := by kernel_rfl
theorem enter43 : En Tryz.prog 43 := enO (fn := Tryz.f43)
noncomputable def T43_1 (F : Nat) : FuncId → Option Summ := tab [(90, (S90_1 F noS)), (103, (S103_1 F noS)), (111, (S111_1 F noS))]
def sh43_1_l5 : Sh := ⟨[.lf (.ptr 0 0), .lf (.ptr 3 0), .lf (.full 4), .lf (.int .i64), .lf (.int .i64)], [some ⟨none, [.full 1, .full 2, .int .i64, .bool, .int .i64]⟩, some ⟨none, [.seq .str 0]⟩, some ⟨none, [.seq (.pair (.int .i64) .str) 0]⟩, some ⟨some false, [.int .i64, .int .i64, .int .i64, .int .i64]⟩, some ⟨some false, [.seq .str 0]⟩]⟩
abbrev Y43_1_l5 := Int → Int → Bool → Int → List ByteArray → List (Int × ByteArray) → Int → Int → Int → Int → (Int → List ByteArray → Option Res) → (List ByteArray → Option Res) → Nat → Int → List ByteArray → Option Res
noncomputable def A43_1_l5 (g : Y43_1_l5) (k : Nat) (d : sh43_1_l5.den) (K : KL) : Option Res := g d.1.2.2.2.1 d.2.1.2.2.2.1 d.2.1.2.2.2.2.1 d.2.1.2.2.2.2.2.1 d.2.2.1.2.1 d.2.2.2.1.2.1 d.2.2.2.2.1.2.1 d.2.2.2.2.1.2.2.1 d.2.2.2.2.1.2.2.2.1 d.2.2.2.2.1.2.2.2.2.1 (fun y0 y10 => K .ret [.tv (.lf (.nils (some .str))), .tv (.lf (.int .i64 y0))] [some ⟨d.2.1.1, [.full 1, .full 2, .int .i64 d.2.1.2.2.2.1, .bool d.2.1.2.2.2.2.1, .int .i64 d.2.1.2.2.2.2.2.1]⟩, some ⟨d.2.2.1.1, [.seq .str 0 d.2.2.1.2.1]⟩, some ⟨d.2.2.2.1.1, [.seq (.pair (.int .i64) .str) 0 d.2.2.2.1.2.1]⟩, some ⟨false, [.int .i64 d.2.2.2.2.1.2.1, .int .i64 d.2.2.2.2.1.2.2.1, .int .i64 d.2.2.2.2.1.2.2.2.1, .int .i64 d.2.2.2.2.1.2.2.2.2.1]⟩, some ⟨false, [.seq .str 0 y10]⟩]) (fun y9 => K (.exit 0) [.tv (.lf (.full 4))] [some ⟨d.2.1.1, [.full 1, .full 2, .int .i64 d.2.1.2.2.2.1, .bool d.2.1.2.2.2.2.1, .int .i64 d.2.1.2.2.2.2.2.1]⟩, some ⟨d.2.2.1.1, [.seq .str 0 d.2.2.1.2.1]⟩, some ⟨d.2.2.2.1.1, [.seq (.pair (.int .i64) .str) 0 d.2.2.2.1.2.1]⟩, some ⟨false, [.int .i64 d.2.2.2.2.1.2.1, .int .i64 d.2.2.2.2.1.2.2.1, .int .i64 d.2.2.2.2.1.2.2.2.1, .int .i64 d.2.2.2.2.1.2.2.2.2.1]⟩, some ⟨false, [.seq .str 0 y9]⟩]) k d.1.2.2.2.2.1 d.2.2.2.2.2.1.2.1
noncomputable def G43_1_5 (F k : Nat) : LoopS := mkG sh43_1_l5 [0, 3, 6, 14, 15] (outT [(.exit 0, [6]), (.ret, [4, 5])]) (fun d K => A43_1_l5 (f43_1_l5 F) k d K) []
noncomputable def LT43_1 (F : Nat) : Nat → Option LoopS := ltab [(5, G43_1_5 F F)]
theorem L43_1_5 (F : Nat) : LoopOK Tryz.prog (T43_1 F) (xw []) 34 3 (LT43_1 F) (G43_1_5 F F) b43_0 :=
  loopOK_of (s := sh43_1_l5) (live := [0, 3, 6, 14, 15]) (out := (outT [(.exit 0, [6]), (.ret, [4, 5])])) (mv := []) (fun k d K => A43_1_l5 (f43_1_l5 F) k d K) F (fun d K => by kernel_rfl)  (fun k d K => by delta A43_1_l5; refine (f43_1_l5.eq_2 ..).trans ?_; delta T43_1 S90_1 S103_1 S111_1 LT43_1; generalize (G43_1_5 F F) = c;  (try delta G43_1_5); generalize (f90_1 F : Y90_1) = c, (f103_1 F : Y103_1) = c, (f111_1 F : Y111_1) = c, (f43_1_l5 F : Y43_1_l5) = c; as_aux_lemma => kernel_rfl)
theorem E43_1 (F : Nat) (d : sh43_1.den) (K : KF) : EB Tryz.prog (T43_1 F) (xw []) 34 3 (LT43_1 F) [] false Tryz.f43 sh43_1 d K = A43_1 (f43_1 F) d K := by delta A43_1 f43_1 T43_1 S90_1 S103_1 S111_1 LT43_1;  delta G43_1_5; generalize (f90_1 F : Y90_1) = c, (f103_1 F : Y103_1) = c, (f111_1 F : Y111_1) = c, (f43_1_l5 F : Y43_1_l5) = c; as_aux_lemma => kernel_rfl
theorem S43_1_ok : So Tryz.prog 43 S43_1 :=
  fun F o ho => sOf (fn := Tryz.f43) (c := code43) (tab_cons (S90_1_ok F _ (noS_sound enter90)) (tab_cons (S103_1_ok F _ (noS_sound enter103)) (tab_cons (S111_1_ok F _ (noS_sound enter111)) tab_nil))) ho (by rw [loops43]; exact (loopsOK_cons (by kernel_rfl) (L43_1_5 F) loopsOK_nil)) snil rnil (E43_1 F)
end
end Go.Proofs.YtlgopekjjkdkiaaGreatDoor.X
end