/- The evaluator is sound, tenth part: slices that are made, appended to, copied. -/
import Derived.Test.YtlokielmpdjedaaEvS9
namespace Go.Proofs.Ytlokielmpdjedaa.Ev
open Go
set_option linter.unusedVariables false

variable {P : Program}

section
variable {G : Ctx} {m : GM} {h : Heap} {w w' : World} {a : Act} {env : Env} {o : Oper} {K : AV → Heap → Option Res} {r : Res}

theorem elemOf_rel {e : TypeId} {k : EK} {z : k.den} (he : elemOf P e = some ⟨k, z⟩) : ∃ i v, P.info? e = some i ∧ i.size = k.w ∧ i.zero = some v ∧ v.cells.toList = k.cv z ∧ 0 < i.bytes := by
  unfold elemOf at he
  split at he
  · rename_i k' hk
    split at he
    · rename_i hsz
      split at he
      · rename_i es hz
        split at he
        · rename_i z' hz'
          simp only [Option.some.injEq, Sigma.mk.injEq] at he
          obtain ⟨rfl, he⟩ := he
          have he := eq_of_heq he
          subst he
          obtain ⟨i, v, hi, hv, hoc⟩ := zeroE_cells (m := []) hz
          refine ⟨i, v, hi, ?_, hv, of1_cells _ hz' hoc, ?_⟩
          · simpa [szOf, hi] using hsz.1
          · simpa [bytesOf, hi] using hsz.2
        · cases he
      · cases he
    · cases he
  · cases he

theorem made_cells {k : EK} {z : k.den} {v : Value} (hv : v.cells.toList = k.cv z) (n : Nat) :
    ((Array.range (n * k.w)).map (v.cells[· % v.cells.size]!)).toList = cvs k (List.replicate n z) := by
  have hs : v.cells.size = k.w := by
    have := congrArg List.length hv
    rw [cv_length] at this
    simpa using this
  apply List.ext_getElem?
  intro j
  by_cases hj : j < n * k.w
  · have hd : j / k.w < n := Nat.div_lt_of_lt_mul (by rw [Nat.mul_comm]; exact hj)
    have hm : j % k.w < k.w := Nat.mod_lt _ k.w_pos
    have h1 := cvs_getD k (List.replicate n z) (j / k.w) (by simpa using hd) (j % k.w) hm
    have h2 : j / k.w * k.w + j % k.w = j := by rw [Nat.mul_comm]; exact Nat.div_add_mod j k.w
    rw [h2] at h1
    rw [h1]
    have h3 : (List.replicate n z).getD (j / k.w) k.zero = z := by simp [List.getD_eq_getElem?_getD, hd]
    rw [h3, ← hv]
    have hlt : j % v.cells.size < v.cells.size := by rw [hs]; exact hm
    simp only [Array.toList_map, Array.toList_range, List.getElem?_map, List.getElem?_range hj, Option.map_some, Array.getElem?_toList]
    rw [hs] at hlt ⊢
    rw [Array.getElem?_eq_getElem (by rw [hs]; exact hlt)]
    rw [getElem!_pos _ _ (by rw [hs]; exact hlt)]
  · have h1 : ((Array.range (n * k.w)).map (v.cells[· % v.cells.size]!)).toList.length ≤ j := by simp; omega
    have h2 : (cvs k (List.replicate n z)).length ≤ j := by rw [cvs_length]; simp; omega
    rw [List.getElem?_eq_none h1, List.getElem?_eq_none h2]

theorem full_rel {g : Gh} (hg : m[h.length]? = some g) {nb sz n : Nat} {k : EK} {l : List k.den} (hgh : g = ghOf (some (nb, 0)) sz [.seq k 0 l]) {c : Nat} (hl : l.length ≤ c) (hsz : c * k.w ≤ sz) :
    LRel m (.full h.length) (.slice (some ⟨nb, 0, none⟩) l.length c) := by
  subst hgh
  refine ⟨_, hg, _, some ⟨nb, 0, none⟩, c, hg, ?_, ?_, ?_, ?_, ?_⟩
  · simp [ghOf, drop0]
  · simpa [ghOf, drop0] using hl
  · intro c' hc; cases hc
  · simp
  · refine .inr ⟨(nb, 0), rfl, ?_, ?_⟩
    · simp [at_]
    · simpa [ghOf, drop0] using hsz

theorem seq_cells (m : GM) (k : EK) (l : List k.den) : OCells m [.seq k 0 l] (cvs k l) := ⟨_, [], (List.append_nil _).symm, ⟨.inl rfl, rfl⟩, rfl⟩

theorem eff_buildSlice (hi : Inv G m h w) (he : ERel m env a) {t : TypeId} {n : Nat} {parts : Array (Nat × Operand)} (ho : o.op = .buildSlice t n parts) (hev : evEff P o env h K = some r) : EffOK P G m w a o K r := by
  simp only [evEff, ho] at hev
  split at hev
  · rename_i e ht
    split at hev
    · rename_i k z ps hel hps
      split at hev
      · cases hev
      · rename_i hbig
        split at hev
        · rename_i l hput
          obtain ⟨i, v, hin, hiz, hzz, hcv, hbpos⟩ := elemOf_rel hel
          have hpt := partsOf_rel he hps
          have hmade := made_cells hcv n
          have hz0 : ∃ cells0 : Array Value, ((n * i.size = 0 ∧ cells0 = #[]) ∨ (¬ n * i.size = 0 ∧ cells0 = v.cells)) ∧
              ((Array.range (n * i.size)).map (cells0[· % cells0.size]!)).toList = cvs k (List.replicate n z) := by
            by_cases hz : n * i.size = 0
            · refine ⟨#[], .inl ⟨hz, rfl⟩, ?_⟩
              rw [hiz] at hz
              have : n = 0 := by
                rcases Nat.mul_eq_zero.1 hz with h0 | h0
                · exact h0
                · have := k.w_pos; omega
              subst this
              simp [hiz, cvs]
            · refine ⟨v.cells, .inr ⟨hz, rfl⟩, ?_⟩
              rw [hiz]; exact hmade
          obtain ⟨cells0, hr0, hc0⟩ := hz0
          obtain ⟨cs', hf, hcs', hlen⟩ := fill_elems (k := k) (sz := i.size) hiz parts.toList ps (List.replicate n z) l _ hpt hput hc0
          have hlen' : l.length = n := by simpa using hlen
          have hsz : cs'.size = n * k.w := by
            have := congrArg List.length hcs'
            rw [cvs_length, hlen'] at this
            simpa using this
          refine ⟨_, _, hev, _, .slice (some ⟨w.heap.size, 0, none⟩) n n, pushB w (.cells cs' e), _, ?_, .inl rfl,
            hi.new (t := e) (fr := (0, 0)) (blk := cs') (seq_cells m k l) (by rw [← hcs']; simp) (fun j hj => by rw [← hcs']; simp) (.inl rfl), pre_append _ _, .inr ?_, fun _ => ext_push w _⟩
          · have hparts : (parts.map fun (x : Nat × Operand) => (x.1, a.eval x.2)).toList = parts.toList.map fun p => (p.1, a.eval p.2) := by simp
            have hb : ¬ (n * i.size > 2 ^ 24) := by rw [hiz]; exact hbig
            rcases hr0 with ⟨hz, rfl⟩ | ⟨hz, rfl⟩
            · simp only [execOp, ho, Instr.buildSlice, Sem.run_bind, run_under ht, Result.andThen_ok, run_size hin, if_neg hb, if_pos hz, hparts, hf, Sem.run_pure, newRow, run_newObj]
              rfl
            · simp only [execOp, ho, Instr.buildSlice, Sem.run_bind, run_under ht, Result.andThen_ok, run_size hin, if_neg hb, if_neg hz, zero_run hin hzz, hparts, hf, Sem.run_pure, newRow, run_newObj]
              rfl
          · have := full_rel (m := m ++ [ghOf (some (w.heap.size, 0)) cs'.size [.seq k 0 l]]) (h := h) (by rw [← hi.len]; exact gm_app_new) rfl (c := n) (n := 0) (by omega) (by omega)
            rw [hlen'] at this
            exact this
        · cases hev
    · cases hev
  · cases hev


theorem hset_self' : ∀ {h : Heap} {id : Nat} {ob : Ob}, hget h id = some ob → hset h id (some ob) = h
  | [], id, ob, hg => by simp [hget] at hg
  | x :: r, 0, ob, hg => by simp only [hget] at hg; simp [hset, hg]
  | x :: r, n + 1, ob, hg => by simp only [hget] at hg; simp [hset, hset_self' hg]

theorem eff_convert (hi : Inv G m h w) (he : ERel m env a) {src dst : TypeId} {x : Operand} (ho : o.op = .convert src dst x) (hev : evEff P o env h K = some r) : EffOK P G m w a o K r := by
  simp only [evEff, ho] at hev
  split at hev
  · rename_i e s hs hd hx
    have hv : a.eval x = .string s := opd_rel he hx
    split at hev
    · rename_i z hu hel
      obtain ⟨i, zv, hin, hiz, hzz, hcv, hbpos⟩ := elemOf_rel hel
      have hsz : (toInts s).length = s.size := by simp [toInts]
      have hc : ∀ l : List UInt8, cvs (.int .u8) (l.map fun c => (c.toNat : Int)) = l.map fun c => Value.int .u8 (c.toNat : Int) := by
        intro l
        induction l with
        | nil => rfl
        | cons c l ih => simp only [List.map_cons, cvs, EK.cv, ih]; rfl
      obtain ⟨cap, hcap, hle⟩ : ∃ cap, (choose (.appendCap s.size 0 e)).run P w = .ok cap { w with drawn := w.drawn + 1 } ∧ s.size ≤ cap :=
        ⟨_, rfl, Nat.le_add_right _ _⟩
      let blk : Array Value := (s.data.map fun b => .int .u8 b.toNat) ++ Array.replicate (cap - s.size) (.int .u8 0)
      have hblk : blk.size = cap := by
        have : s.data.size = s.size := rfl
        simp only [blk, Array.size_append, Array.size_map, Array.size_replicate, this]; omega
      let w1 : World := { w with drawn := w.drawn + 1 }
      let w2 : World := pushB w1 (.cells blk e)
      let w3 : World := w2.freeze { block := w.heap.size, off := blk.size } 1
      have hsh : w2.shape? w.heap.size = some (e, blk.size) := by
        have : w2.heap[w.heap.size]? = some (.cells blk e) := push_get w1 _
        simp only [World.shape?, this]
      have hrun : (execOp a.eval o).run P w = .ok (.value (.slice (some ⟨w.heap.size, 0, none⟩) s.size cap)) w3 := by
        have hstb : (Conv.stringToBytes e s).run P w = .ok (.slice (some ⟨w.heap.size, 0, none⟩) s.size cap) w3 := by
          simp only [Conv.stringToBytes, Sem.run_bind, hcap, Result.andThen_ok, newRow, run_newObj, Sem.run_pure, markStringish, run_shape]
          have hsh2 : World.shape? { heap := w.heap.push (.cells blk e), tape := w.tape, drawn := w.drawn + 1, os := w.os, output := w.output } w.heap.size = some (e, blk.size) := hsh
          rw [hsh2]
          rfl
        have hconv : (convert src dst (.string s)).run P w = .ok (.slice (some ⟨w.heap.size, 0, none⟩) s.size cap) w3 := by
          simp only [convert, Sem.run_bind, run_under hs, run_under hd, Result.andThen_ok, run_under hu, hstb]
        simp only [execOp, ho, hv, Sem.run_bind, hconv, Result.andThen_ok, Sem.run_pure]
      have hfz : w3.heap[w.heap.size]? = some (.cells blk e (blk.size, blk.size + 1)) := by
        have : w2.heap[w.heap.size]? = some (.cells blk e) := push_get w1 _
        have hlt : w.heap.size < w2.heap.size := (Array.getElem?_eq_some_iff.1 this).1
        simp only [w3, World.freeze, Nat.one_ne_zero, if_false, Array.getElem?_modify]
        rw [if_pos trivial, this]
        rfl
      have hext : Ext w w3 := ⟨⟨rfl, rfl, rfl⟩, by simp [w3, w2, w1, World.freeze, pushB], fun b hb => by
        have : w2.heap[b]? = w.heap[b]? := (ext_push w1 _).block b hb
        rw [← this]
        simp only [w3, World.freeze]
        simp only [Nat.one_ne_zero, if_false, Array.getElem?_modify]
        rw [if_neg (by omega)]⟩
      have hcs : cvs (.int .u8) (toInts s) = s.data.toList.map fun c => Value.int .u8 (c.toNat : Int) := hc _
      refine ⟨_, _, hev, _, .slice (some ⟨w.heap.size, 0, none⟩) s.size cap, w3, _, hrun, .inl rfl,
        hi.new' (nb := w.heap.size) hext (Nat.le_refl _) (es := [.seq (.int .u8) 0 (toInts s)]) (cs := cvs (.int .u8) (toInts s)) (blk := blk) hfz (seq_cells m (.int .u8) (toInts s)) (by rw [cvs_length, hsz, hblk]; simp [EK.w]; exact hle)
          (fun j hj => ?_) (.inr (Nat.le_refl _)), pre_append _ _, .inr ?_, fun _ => hext⟩
      · rw [hcs]
        rw [cvs_length, hsz] at hj
        simp only [EK.w, Nat.mul_one] at hj
        have hj' : j < s.data.size := hj
        simp only [blk]
        rw [Array.getElem?_append_left (by simpa using hj')]
        simp
      · have := full_rel (m := m ++ [ghOf (some (w.heap.size, 0)) blk.size [.seq (.int .u8) 0 (toInts s)]]) (h := h) (by rw [← hi.len]; exact gm_app_new) rfl (c := cap) (n := 0) (by rw [hsz]; exact hle) (by simp [EK.w, hblk])
        rw [hsz] at this
        exact this
    · cases hev
  · rename_i e0 e id hs hd hx
    have hv : LRel m (.full id) (a.eval x) := opd_rel he hx
    split at hev
    · rename_i k q l hu hob
      split at hev
      · rename_i hsd
        subst hsd
        obtain rfl : e0 = e := by rw [hs] at hd; cases hd; rfl
        obtain ⟨hl0, hev⟩ := dec_of hev
        obtain ⟨g, hg, g', A, C, hg', hval, hle, -, hlen, hA⟩ := hv
        rw [hg] at hg'; cases hg'
        have hln := ((hi.obs _ _ g hob hg).1 0 k q l [] (drop0 _)).1
        rcases hA with hA | ⟨b, hb, rfl, hbd⟩
        · rw [← hln] at hle; omega
        obtain ⟨hsq, cs, hoc, hpl⟩ := hi.obs _ _ g hob hg
        rcases hpl with ⟨_, hn⟩ | ⟨b', blk, t, fr, hb', hblk, hsz, hle2, hcell, hfr⟩
        · rw [hb] at hn; cases hn
        rw [hb] at hb'; cases hb'
        have hfr := hfr rfl
        obtain ⟨fr', hfr', hw⟩ : ∃ fr', FrOk fr' g.sz ∧ (w.freeze { block := b.1, off := blk.size } 1).heap[b.1]? = some (.cells blk t fr') := by
          obtain ⟨f1, f2⟩ := fr
          refine ⟨if f1 == f2 then (blk.size, blk.size + 1) else (min f1 blk.size, max f2 (blk.size + 1)), ?_, ?_⟩
          · unfold FrOk at hfr ⊢
            simp only at hfr
            by_cases hf : f1 = f2
            · simp [hf]; omega
            · have : (f1 == f2) = false := by simpa using hf
              rw [this]
              simp only [Bool.false_eq_true, if_false]
              omega
          · simp only [World.freeze, Nat.one_ne_zero, if_false, Array.getElem?_modify]
            rw [if_pos trivial, hblk]
            rfl
        have hob2 : OnlyB w (w.freeze { block := b.1, off := blk.size } 1) b.1 := ⟨⟨rfl, rfl, rfl⟩, by simp [World.freeze], fun c hc => by
          simp only [World.freeze, Nat.one_ne_zero, if_false, Array.getElem?_modify]
          rw [if_neg (fun h => hc h.symm)]⟩
        have hsh : w.shape? b.1 = some (t, blk.size) := by
          simp only [World.shape?, hblk]
        have hrun : (execOp a.eval o).run P w = .ok (.value (a.eval x)) (w.freeze { block := b.1, off := blk.size } 1) := by
          have hconv : (convert src src (a.eval x)).run P w = .ok (a.eval x) (w.freeze { block := b.1, off := blk.size } 1) := by
            rw [hval]
            simp only [convert, Sem.run_bind, run_under hs, Result.andThen_ok, run_under hu, beq_self_eq_true, markStringish, run_shape, at_, hsh]
            rfl
          simp only [execOp, ho, Sem.run_bind, hconv, Result.andThen_ok, Sem.run_pure]
        have hi' := hi.put (es' := [.seq k q l]) hob hg hb hob2 ⟨hsq, cs, hoc, .inr ⟨b, blk, t, fr', hb, hw, hsz, hle2, hcell, fun _ => hfr'⟩⟩
        rw [hset_self' hob] at hi'
        refine ⟨_, _, hev, _, a.eval x, _, m, hrun, .inl rfl, hi', Pre.refl m, .inr ?_, fun hds => ?_⟩
        · exact opd_rel he hx
        · rw [ho] at hds; simp [isDs] at hds
      · cases hev
    · cases hev
  · cases hev

theorem wrap_id {n : Int} (h0 : 0 ≤ n) (h1 : n ≤ 70368744177664) : IntKind.i64.wrap n = n := by
  exact IntWalk.i64_in _ (by omega)

theorem sameOpd_val {l c : Operand} {kl kc : IntKind} {n mm : Int} (hsame : sameOpd l c = true) (hl : a.eval l = .int kl n) (hc : a.eval c = .int kc mm) : n = mm := by
  unfold sameOpd at hsame
  split at hsame
  · rename_i p q
    have : p = q := by simpa using hsame
    subst this
    rw [hl] at hc
    injection hc
  · rename_i k1 p k2 q
    have : p = q := by simpa using hsame
    subst this
    have e1 : Value.int k1 p = .int kl n := hl
    have e2 : Value.int k2 p = .int kc mm := hc
    injection e1 with _ e1
    injection e2 with _ e2
    rw [← e1, ← e2]
  · cases hsame

theorem eff_makeSlice (hi : Inv G m h w) (he : ERel m env a) {t : TypeId} {l c : Operand} (ho : o.op = .makeSlice t l c) (hev : evEff P o env h K = some r) : EffOK P G m w a o K r := by
  simp only [evEff, ho] at hev
  split at hev
  · rename_i e n mm ht hl hc
    obtain ⟨kl, hl'⟩ := int_opd he hl
    obtain ⟨kc, hc'⟩ := int_opd he hc
    split at hev
    · rename_i k z hel
      obtain ⟨⟨h0, h1, h2, h3⟩, hev⟩ := dec_of hev
      obtain ⟨i, v, hin, hiz, hzz, hcv, hbpos⟩ := elemOf_rel hel
      have hb : bytesOf P e = i.bytes := by simp [bytesOf, hin]
      have hmade := made_cells hcv mm.toNat
      have hwn := wrap_id h0 (by omega)
      have hwm := wrap_id (n := mm) (by omega) h2
      have hbytes : ¬ ((i.bytes : Int) * mm > 2 ^ 48) := by
        rw [hb, Int.mul_comm] at h3; omega
      have hz0 : ∃ cells0 : Array Value, ((mm.toNat * i.size = 0 ∧ cells0 = #[]) ∨ (¬ mm.toNat * i.size = 0 ∧ cells0 = v.cells)) ∧
          ((Array.range (mm.toNat * i.size)).map (cells0[· % cells0.size]!)).toList = cvs k (List.replicate mm.toNat z) := by
        by_cases hz : mm.toNat * i.size = 0
        · refine ⟨#[], .inl ⟨hz, rfl⟩, ?_⟩
          rw [hiz] at hz
          have : mm.toNat = 0 := by
            rcases Nat.mul_eq_zero.1 hz with h0 | h0
            · exact h0
            · have := k.w_pos; omega
          rw [this]
          simp [hiz, cvs]
        · refine ⟨v.cells, .inr ⟨hz, rfl⟩, ?_⟩
          rw [hiz]; exact hmade
      obtain ⟨cells0, hr0, hc0⟩ := hz0
      generalize hblk : (Array.range (mm.toNat * i.size)).map (cells0[· % cells0.size]!) = blk at hc0
      have hsz : blk.size = mm.toNat * k.w := by
        have := congrArg List.length hc0
        rw [cvs_length] at this
        simpa using this
      have hrun : (execOp a.eval o).run P w = .ok (.value (.slice (some ⟨w.heap.size, 0, none⟩) n.toNat mm.toNat)) (pushB w (.cells blk e)) := by
        have ht1 : (decide (mm < 0) || decide ((i.bytes : Int) * mm > 2 ^ 48) || decide (n < 0) || decide (n > mm)) = false := by
          simp only [Bool.or_eq_false_iff, decide_eq_false_iff_not]
          exact ⟨⟨⟨by omega, hbytes⟩, by omega⟩, by omega⟩
        have hti : (typeInfo e).run P w = .ok i w := by simp [typeInfo, hin]
        rcases hr0 with ⟨hz, rfl⟩ | ⟨hz, rfl⟩
        · simp only [execOp, ho, Instr.makeSlice, Sem.run_bind, run_under ht, Result.andThen_ok, hl', hc', asInt, asIntOf, Sem.run_pure, hti, hwn, hwm, ht1, Bool.false_eq_true, if_false, run_askRoom, run_size hin, if_pos hz, newRow, run_newObj, hblk]
          rfl
        · simp only [execOp, ho, Instr.makeSlice, Sem.run_bind, run_under ht, Result.andThen_ok, hl', hc', asInt, asIntOf, Sem.run_pure, hti, hwn, hwm, ht1, Bool.false_eq_true, if_false, run_askRoom, run_size hin, if_neg hz, zero_run hin hzz, newRow, run_newObj, hblk]
          rfl
      have hg : (m ++ [ghOf (some (w.heap.size, 0)) blk.size [.seq k 0 (List.replicate mm.toNat z)]])[h.length]? = some (ghOf (some (w.heap.size, 0)) blk.size [.seq k 0 (List.replicate mm.toNat z)]) := by
        rw [← hi.len]; exact gm_app_new
      refine ⟨_, _, hev, _, _, _, _, hrun, .inl rfl,
        hi.new (t := e) (fr := (0, 0)) (blk := blk) (seq_cells m k (List.replicate mm.toNat z)) (by rw [← hc0]; simp) (fun j hj => by rw [← hc0]; simp) (.inl rfl), pre_append _ _, .inr ?_, fun _ => ext_push w _⟩
      by_cases hsame : sameOpd l c = true
      · rw [if_pos hsame]
        have hnm : n = mm := sameOpd_val hsame hl' hc'
        subst hnm
        have := full_rel (h := h) hg rfl (c := n.toNat) (n := 0) (by simp) (by rw [hsz]; simp)
        rw [List.length_replicate] at this
        exact this
      · rw [if_neg hsame]
        refine ⟨_, some ⟨w.heap.size, 0, none⟩, mm.toNat, hg, rfl, by omega, fun c' hc' => by cases hc'; rfl, ?_, .inr ⟨(w.heap.size, 0), rfl, ?_, ?_⟩⟩
        · simp [ghOf, drop0]
        · simp [at_]
        · simp [ghOf, drop0, hsz]
    · cases hev
  · cases hev


/-- What is shown of an append. -/
theorem append_core (hi : Inv G m h w) {c : Call} {e : TypeId} {k : EK} {i : TypeInfo} {z : Value} {x y : Operand} {l1 l2 : List k.den} {b : LV} (ho : o.op = .call c) (hc : c.callee = .builtin .append) (hl : c.args.toList = [x, y])
    (ht : arg0T P c = some (.slice e)) (h1 : arg1Ok P c = true) (hin : P.info? e = some i) (hiz : i.size = k.w) (hzz : i.zero = some z) (hzs : z.cells.size = k.w) (hbp : 0 < i.bytes) (hb : LRel m b (a.eval y)) (hvis : visK k h b = some l2)
    {A : Option Addr} {C : Nat} (hx : a.eval x = .slice A l1.length C) (hC : l1.length ≤ C) (hsize : (l1.length + l2.length) * i.bytes ≤ 70368744177664)
    (hrd : ∀ w', Ext w w' → l1.length ≠ 0 → ∃ p, A = some p ∧ ∀ j u, (cvs k l1)[j]? = some u → w'.cell? (p.add j) = some u) :
    (l1.length + l2.length ≤ C ∧ ∀ w', (match A with | some p => (storeCells (p.add (l1.length * k.w)) (cvs k l2)).run P w = .ok () w' | none => w' = w) →
      (execOp a.eval o).run P w = .ok (.value (.slice A (l1.length + l2.length) C)) w') ∨
    (∃ C' blk w', C < l1.length + l2.length ∧ l1.length + l2.length ≤ C' ∧ (execOp a.eval o).run P w = .ok (.value (.slice (some ⟨w.heap.size, 0, none⟩) (l1.length + l2.length) C')) w' ∧
      Ext w w' ∧ w'.heap[w.heap.size]? = some (.cells blk e) ∧ blk.size = C' * k.w ∧ ∀ j, j < (cvs k (l1 ++ l2)).length → blk[j]? = (cvs k (l1 ++ l2))[j]?) := by
  obtain ⟨consts, hrun⟩ := run_builtin (P := P) (a := a) c hc ho
  obtain ⟨t0, ht0, htu⟩ := arg0_of ht
  obtain ⟨t1, d1, ht1, hd1, hd1'⟩ : ∃ t1 d1, c.argTypes[1]? = some t1 ∧ P.underlying t1 = some d1 ∧ ((∃ q, d1 = .slice q) ∨ d1 = .string) := by
    unfold arg1Ok at h1
    split at h1
    · rename_i t1 ht1
      split at h1
      · rename_i q hq; exact ⟨t1, _, ht1, hq, .inl ⟨q, rfl⟩⟩
      · rename_i hq; exact ⟨t1, _, ht1, hq, .inr rfl⟩
      · cases h1
    · cases h1
  obtain ⟨hlen, hfst, _⟩ := visK_run (P := P) hi hb hvis
  have hti : ∀ w : World, (typeInfo e).run P w = .ok i w := fun w => by simp [typeInfo, hin]
  have hlen' := hlen w
  have hneed : l1.length + l2.length ≤ 70368744177664 := Nat.le_trans (Nat.le_mul_of_pos_right _ hbp) hsize
  by_cases hroom : l1.length + l2.length ≤ C
  · refine .inl ⟨hroom, fun w' hst => ?_⟩
    have hfc := hfst w (Ext.refl w) l2.length (Nat.le_refl _)
    rw [List.take_length] at hfc
    rw [hrun, args2 hl, hx]
    have key : (Builtin.append_ c.argTypes o.type #[.slice A l1.length C, a.eval y]).run P w = .ok (.slice A (l1.length + l2.length) C) w' := by
      cases A with
      | none =>
        have hst' : w' = w := hst
        subst hst'
        rcases hd1' with ⟨q, rfl⟩ | rfl <;>
          simp [Builtin.append_, ht0, ht1, run_under htu, run_under hd1, run_size hin, hiz, hlen', hroom, hfc]
      | some p =>
        have hst' : (storeCells (p.add (l1.length * k.w)) (cvs k l2)).run P w = .ok () w' := hst
        rcases hd1' with ⟨q, rfl⟩ | rfl <;>
          simp [Builtin.append_, ht0, ht1, run_under htu, run_under hd1, run_size hin, hiz, hlen', hroom, hfc, hst']
    simp [builtin, key]
  · let need := l1.length + l2.length
    let C' := (Question.appendCap need C e).cut (w.tape w.drawn (.appendCap need C e))
    have hC' : need ≤ C' := Nat.le_add_right _ _
    let w1 : World := { w with drawn := w.drawn + 1 }
    have e1 : Ext w w1 := Ext.drew w
    have hfc := hfst w1 e1 l2.length (Nat.le_refl _)
    rw [List.take_length] at hfc
    have hfo : (Builtin.firstCells k.w l1.length (.slice A l1.length C)).run P w1 = .ok (cvs k l1).toArray w1 := by
      by_cases hz : l1.length = 0
      · have : l1 = [] := List.eq_nil_of_length_eq_zero hz
        subst this
        cases A with
        | none => simp [Builtin.firstCells, cvs]
        | some p =>
          have := run_loadCells_list (P := P) (w := w1) p [] (fun j u hu => by cases hu)
          simpa [Builtin.firstCells, cvs] using this
      · obtain ⟨p, rfl, hp⟩ := hrd w1 e1 hz
        have := run_loadCells_list (P := P) (w := w1) p (cvs k l1) hp
        rw [cvs_length] at this
        simpa [Builtin.firstCells] using this
    let blk : Array Value := (cvs k l1).toArray ++ (cvs k l2).toArray ++ Builtin.zeroCells z.cells (C' - need)
    have h63 : ¬ (((l1.length + l2.length : Nat) : Int) > IntKind.i64.max) := by
      have : IntKind.i64.max = 9223372036854775807 := by decide
      rw [this]; omega
    have h48 : ¬ (Builtin.nextslicecap (l1.length + l2.length) C * i.bytes > 2 ^ 48) := by
      have := growslice_fits (need := l1.length + l2.length) (old := C) (bytes := i.bytes) (by omega) (by omega)
      omega
    have key : (Builtin.append_ c.argTypes o.type #[.slice A l1.length C, a.eval y]).run P w = .ok (.slice (some ⟨w.heap.size, 0, none⟩) (l1.length + l2.length) C') (pushB w1 (.cells blk e)) := by
      have hch : (choose (.appendCap (l1.length + l2.length) C e)).run P w = .ok C' w1 := rfl
      have hzz' := fun w => zero_run hin hzz w
      rcases hd1' with ⟨q, rfl⟩ | rfl
      · simp only [Builtin.append_, ht0, ht1, Sem.run_bind, run_under htu, run_under hd1, Result.andThen_ok, run_size hin, hiz, Sem.run_pure, Bool.false_eq_true, if_false, hlen', List.getElem?_toArray, List.getElem?_cons_zero, List.getElem?_cons_succ, if_neg hroom, hti, h63, h48, false_and, hch, run_askRoom, hfo, Bool.not_false, if_true, hfc, hzz', newRow, run_newObj]
        rfl
      · simp only [Builtin.append_, ht0, ht1, Sem.run_bind, run_under htu, run_under hd1, Result.andThen_ok, run_size hin, hiz, Sem.run_pure, Bool.false_eq_true, if_false, hlen', List.getElem?_toArray, List.getElem?_cons_zero, List.getElem?_cons_succ, if_neg hroom, hti, h63, h48, false_and, hch, run_askRoom, hfo, Bool.not_false, if_true, hfc, hzz', newRow, run_newObj]
        rfl
    refine .inr ⟨C', blk, pushB w1 (.cells blk e), by omega, hC', ?_, e1.trans (ext_push w1 _), push_get w1 _, ?_, fun j hj => ?_⟩
    · rw [hrun, args2 hl, hx]
      simp [builtin, key]
    · simp only [blk, Array.size_append, List.size_toArray, cvs_length, size_zeroCells, hzs]
      rw [← Nat.add_mul, ← Nat.add_mul]
      congr 1
      show need + (C' - need) = C'
      omega
    · rw [cvs_append] at hj ⊢
      simp only [blk]
      rw [Array.getElem?_append_left (by simpa using hj)]
      simp


theorem pre_of_app {g : Gh} : Pre m (m ++ [g]) := pre_append m _

theorem full_nil {g : Gh} (hg : m[h.length]? = some g) {k : EK} {A : Option Addr} (hgh : g = ghOf none 0 [.seq k 0 []]) : LRel m (.full h.length) (.slice A 0 0) := by
  subst hgh
  refine ⟨_, hg, _, A, 0, hg, ?_, ?_, ?_, ?_, .inl rfl⟩
  · simp [ghOf, drop0]
  · simp [ghOf, drop0]
  · intro c' hc; cases hc
  · simp

theorem add_nil (hi : Inv G m h w) (k : EK) : Inv G (m ++ [ghOf none 0 [.seq k 0 []]]) (h ++ [some ⟨false, [.seq k 0 []]⟩]) w :=
  hi.add ⟨ghOf_seq _ _ _, [], seq_cells _ k [], .inl ⟨rfl, rfl⟩⟩ (fun b hb => by cases hb) (fun _ b hb => by cases hb)

theorem append_slice (hi : Inv G m h w) {c : Call} {e : TypeId} {k : EK} {i : TypeInfo} {z : Value} {x y : Operand} {l1 l2 : List k.den} {b : LV} (ho : o.op = .call c) (hc : c.callee = .builtin .append) (hl : c.args.toList = [x, y])
    (ht : arg0T P c = some (.slice e)) (h1 : arg1Ok P c = true) (hin : P.info? e = some i) (hiz : i.size = k.w) (hzz : i.zero = some z) (hzs : z.cells.size = k.w) (hbp : 0 < i.bytes) (hb : LRel m b (a.eval y)) (hvis : visK k h b = some l2)
    (hsize : (l1.length + l2.length) * i.bytes ≤ 70368744177664)
    {id lo n : Nat} {cap : Option Nat} {l : List k.den} (hid : hget h id = some ⟨false, [.seq k n l]⟩) (hsl : SlRel m id 0 lo l1.length cap (a.eval x))
    (hrd : ∀ A C, a.eval x = .slice A l1.length C → ∀ w', Ext w w' → l1.length ≠ 0 → ∃ p, A = some p ∧ ∀ j u, (cvs k l1)[j]? = some u → w'.cell? (p.add j) = some u)
    (hev : K (.tv (.lf (.full h.length))) (hset h id none ++ [some ⟨false, [.seq k 0 (l1 ++ l2)]⟩]) = some r) : EffOK P G m w a o K r := by
  obtain ⟨g, A, C, hg, hx, hle, hcap, hln, hbb⟩ := hsl
  have hds : isDs o.op = true := by rw [ho]; simp [isDs, hc]
  have hnods : ∀ {q : Prop}, isDs o.op = false → q := fun h0 => by rw [hds] at h0; cases h0
  have hlen2 : (hset h id none).length = h.length := hset_length _ _ _
  rcases append_core hi ho hc hl ht h1 hin hiz hzz hzs hbp hb hvis hx hle hsize (hrd A C hx) with ⟨hroom, hrun⟩ | ⟨C', blk, w', hlt, hC', hrun, hext, hblk, hbs, hcells⟩
  · by_cases hC0 : C = 0
    · subst hC0
      have e1 : l1 = [] := List.eq_nil_of_length_eq_zero (by omega)
      have e2 : l2 = [] := List.eq_nil_of_length_eq_zero (by omega)
      subst e1 e2
      have hr := hrun w (by
        cases A with
        | none => rfl
        | some p => simp [cvs, storeCells])
      have hadd := add_nil (hi.drop id) k
      refine ⟨_, _, hev, _, _, w, _, hr, .inl rfl, hadd, pre_append _ _, .inr ?_, hnods⟩
      have := full_nil (m := m ++ [ghOf none 0 [.seq k 0 []]]) (h := h) (k := k) (A := A) (by rw [← hi.len]; exact gm_app_new) rfl
      exact this
    · rcases hbb with hbb | ⟨bb, hbb, hA, hsz⟩
      · exact absurd hbb hC0
      · obtain ⟨hsg, cs, hoc, hpl⟩ := hi.obs id _ g hid hg
        obtain ⟨hlen, hew⟩ := hsg 0 k n l [] (drop0 _)
        rcases hpl with ⟨_, h0⟩ | ⟨b', blk, t', fr, q1, q2, q3, q4, q5, q6⟩
        · rw [hbb] at h0; cases h0
        · rw [hbb] at q1
          cases q1
          have hleaf := cvs_leaf k l2
          have hfit : (lo + (l1.length + l2.length)) * k.w ≤ (lo + C) * k.w := Nat.mul_le_mul_right _ (by omega)
          rw [← hew] at hsz hA
          simp only [Nat.zero_add, Nat.add_zero] at hsz hA
          have hfit2 : bb.2 + (lo * k.w + l1.length * k.w) + (cvs k l2).length ≤ blk.size := by
            rw [cvs_length, q3]
            simp only [Nat.add_mul] at hfit hsz
            omega
          obtain ⟨w', cur', s1, s2, s3, s4⟩ := run_storeCells_any (P := P) (g := bb.1) (o := bb.2 + (lo * k.w + l1.length * k.w)) (t := t') (fr := fr) (cvs k l2) 0 blk w q2 (by omega) hleaf (by rw [q3]; exact (q6 rfl).not)
          have hr := hrun w' (by
            subst hA
            simp only [add_at]
            exact s1)
          have hcs : cur'.size = blk.size := by
            have := congrArg List.length s4
            simp only [List.length_append, List.length_take, List.length_drop, Array.length_toList] at this
            omega
          let g' := ghOf (some (bb.1, bb.2 + lo * k.w)) g.sz [.seq k 0 (l1 ++ l2)]
          have hkill := hi.kill hid hg hbb s2
          have hadd : Inv G (m ++ [g']) (hset h id none ++ [some ⟨false, [.seq k 0 (l1 ++ l2)]⟩]) w' := by
            refine hkill.add ⟨ghOf_seq _ _ _, _, seq_cells _ k (l1 ++ l2), .inr ⟨_, cur', t', fr, rfl, s3, by rw [hcs]; exact q3, ?_, fun j hj => ?_, q6⟩⟩ (fun b2 hb2 => ?_) (fun _ b2 hb2 j oj gj c2 hj hro hgj hc2 => ?_)
            · rw [cvs_length, List.length_append]
              simp only [g', ghOf]
              simp only [Nat.add_mul] at hfit hsz ⊢
              omega
            · have e1 : cur'.toList = splice blk.toList (bb.2 + (lo * k.w + l1.length * k.w)) (cvs k l2) := by rw [s4]; simp [splice]
              have e2 : cur'[bb.2 + lo * k.w + j]? = (splice blk.toList (bb.2 + (lo * k.w + l1.length * k.w)) (cvs k l2))[bb.2 + lo * k.w + j]? := by rw [← e1]; simp
              rw [e2, splice_get (by simpa using hfit2), cvs_append]
              have hl1 : (cvs k l1).length = l1.length * k.w := cvs_length k l1
              by_cases c1 : j < l1.length * k.w
              · rw [if_pos (by omega), List.getElem?_append_left (by omega)]
                have hne : l1.length ≠ 0 := fun h0 => by rw [h0] at c1; simp at c1
                obtain ⟨p, hp, hcell⟩ := hrd A C hx w (Ext.refl w) hne
                rw [hA] at hp
                cases hp
                have := hcell j _ (List.getElem?_eq_getElem (by omega : j < (cvs k l1).length))
                rw [add_at] at this
                simp only [World.cell?, at_, q2] at this
                rw [List.getElem?_eq_getElem (by omega : j < (cvs k l1).length), ← this]
                simp [Nat.add_assoc]
              · rw [if_neg (by omega), List.getElem?_append_right (by omega), hl1]
                rw [cvs_append, List.length_append, hl1] at hj
                rw [if_pos (by omega)]
                congr 1; omega
            · cases hb2
              have := hi.own id _ g bb hid hg hbb
              exact this
            · cases hb2
              rcases hget_hset hj with ⟨_, h0⟩ | ⟨hne, hj⟩
              · cases h0
              · have := hi.apart hid hg hbb hne hj hgj hc2
                exact this
          refine ⟨_, _, hev, _, _, w', _, hr, .inl rfl, hadd, pre_append _ _, .inr ?_, hnods⟩
          have hgg : (m ++ [g'])[h.length]? = some g' := by rw [← hi.len]; exact gm_app_new
          have hlk : g'.ln 0 = l1.length + l2.length := by simp [g', ghOf, drop0]
          refine ⟨g', hgg, g', A, C, hgg, by rw [hlk], by rw [hlk]; exact hroom, fun c' hc => (by cases hc), by simp, .inr ⟨(bb.1, bb.2 + lo * k.w), rfl, ?_, ?_⟩⟩
          · rw [hA]; simp [at_]
          · simp only [g', ghOf, drop0]
            simp only [Nat.add_mul] at hsz ⊢
            omega
  · have hadd := (hi.drop id).new' hext (Nat.le_refl _) (es := [.seq k 0 (l1 ++ l2)]) hblk (seq_cells m k (l1 ++ l2)) (by rw [cvs_length, List.length_append, hbs]; exact Nat.mul_le_mul_right _ hC') hcells (.inl rfl)
    refine ⟨_, _, hev, _, _, w', _, hrun, .inl rfl, hadd, pre_append _ _, .inr ?_, hnods⟩
    have := full_rel (m := m ++ [ghOf (some (w.heap.size, 0)) blk.size [.seq k 0 (l1 ++ l2)]]) (h := h) (by rw [← hi.len]; exact gm_app_new) rfl (c := C') (n := 0) (by rw [List.length_append]; exact hC') (by rw [hbs]; exact Nat.le_refl _)
    rw [List.length_append] at this
    exact this


theorem eff_append (hi : Inv G m h w) (he : ERel m env a) {c : Call} (ho : o.op = .call c) (hc : c.callee = .builtin .append) (hev : evEff P o env h K = some r) : EffOK P G m w a o K r := by
  simp only [evEff, ho, hc] at hev
  have hds : isDs o.op = true := by rw [ho]; simp [isDs, hc]
  have hnods : ∀ {q : Prop}, isDs o.op = false → q := fun h0 => by rw [hds] at h0; cases h0
  split at hev
  · rename_i va vb e hargs ht
    obtain ⟨x, y, hl, hx, hy⟩ := (argVals_rel he hargs).two
    split at hev
    · rename_i k z hel
      obtain ⟨i, zv, hin, hiz, hzz, hcv, hbpos⟩ := elemOf_rel hel
      have hzs : zv.cells.size = k.w := by
        have := congrArg List.length hcv
        rw [cv_length] at this
        simpa using this
      have hbe : bytesOf P e = i.bytes := by simp [bytesOf, hin]
      split at hev
      · cases hev
      · rename_i hok
        have hok' : arg1Ok P c = true := by
          cases hq : arg1Ok P c with
          | true => rfl
          | false => exact absurd (by rw [hq]; rfl) hok
        split at hev
        · rename_i l2 hvis
          split at hev
          · rename_i q
            obtain ⟨hsize, hev⟩ := dec_of hev
            rw [hbe] at hsize
            have hx' : a.eval x = .slice none ([] : List k.den).length 0 := hx
            rcases append_core (l1 := []) hi ho hc hl ht hok' hin hiz hzz hzs hbpos hy hvis hx' (Nat.le_refl _) (by simpa using hsize) (fun _ _ h0 => absurd rfl h0) with ⟨hroom, hrun⟩ | ⟨C', blk, w', hlt, hC', hrun, hext, hblk, hbs, hcells⟩
            · have e2 : l2 = [] := List.eq_nil_of_length_eq_zero (by simpa using hroom)
              subst e2
              have hr := hrun w rfl
              refine ⟨_, _, hev, _, _, w, _, hr, .inl rfl, add_nil hi k, pre_append _ _, .inr ?_, hnods⟩
              exact full_nil (m := m ++ [ghOf none 0 [.seq k 0 []]]) (h := h) (k := k) (A := none) (by rw [← hi.len]; exact gm_app_new) rfl
            · rw [List.nil_append] at hcells
              have hadd := hi.new' hext (Nat.le_refl _) (es := [.seq k 0 l2]) hblk (seq_cells m k l2) (by
                rw [cvs_length, hbs]
                simp only [List.length_nil, Nat.zero_add] at hC'
                exact Nat.mul_le_mul_right _ hC') hcells (.inl rfl)
              refine ⟨_, _, hev, _, _, w', _, hrun, .inl rfl, hadd, pre_append _ _, .inr ?_, hnods⟩
              have := full_rel (m := m ++ [ghOf (some (w.heap.size, 0)) blk.size [.seq k 0 l2]]) (h := h) (by rw [← hi.len]; exact gm_app_new) rfl (c := C') (n := 0) (by simpa using hC') (by rw [hbs]; exact Nat.le_refl _)
              simp only [List.length_nil, Nat.zero_add]
              exact this
          · rename_i id
            split at hev
            · rename_i k' n l hid
              split at hev
              · rename_i hk
                subst hk
                simp only [cast_refl] at hev
                obtain ⟨hsize, hev⟩ := dec_of hev
                rw [hbe] at hsize
                have hv1 : visK k' h (.full id) = some l := by simp [visK, vis, hid, cast_refl]
                have hxl : LRel m (.full id) (a.eval x) := hx
                have hrd := (visK_run (P := P) hi hxl hv1).2.2
                have hsf : sliceForm h (.full id) = some (id, 0, 0, l.length, none) := by simp [sliceForm, hid]
                exact append_slice hi ho hc hl ht hok' hin hiz hzz hzs hbpos hy hvis hsize hid (sliceForm_rel hi hsf hx) (fun A C hA => (hrd A _ C hA).2) hev
              · cases hev
            · cases hev
          · rename_i id lo len cap
            split at hev
            · rename_i k' n l hid
              split at hev
              · rename_i hk
                subst hk
                simp only [cast_refl] at hev
                obtain ⟨hsize, hev⟩ := dec_of hev
                rw [hbe] at hsize
                have hv1 : visK k' h (.slice id 0 lo len cap) = some ((l.drop lo).take len) := by simp [visK, vis, hid, cast_refl, drop0]
                have hxl : LRel m (.slice id 0 lo len cap) (a.eval x) := hx
                obtain ⟨hlenR, _, hrd⟩ := visK_run (P := P) hi hxl hv1
                have hsl : SlRel m id 0 lo len cap (a.eval x) := hx
                have hlen : ((l.drop lo).take len).length = len := by
                  obtain ⟨g, A, C, hg, hxv, hle, hcap, hln, _⟩ := hsl
                  exact ((hrd A _ C hxv).1).symm
                have hsl' : SlRel m id 0 lo ((l.drop lo).take len).length cap (a.eval x) := by rw [hlen]; exact hsl
                exact append_slice hi ho hc hl ht hok' hin hiz hzz hzs hbpos hy hvis (by rw [hlen]; exact hsize) hid hsl' (fun A C hA => (hrd A _ C hA).2) hev
              · cases hev
            · cases hev
          · cases hev
        · cases hev
    · cases hev
  · cases hev

theorem hset_self : ∀ {h : Heap} {id : Nat} {ob : Ob}, hget h id = some ob → hset h id (some ob) = h
  | [], _, _, h0 => by simp [hget] at h0
  | x :: r, 0, _, h0 => by simp only [hget] at h0; simp [hset, h0]
  | x :: r, id + 1, _, h0 => by simp only [hget] at h0; simp [hset, hset_self h0]

theorem eff_copy (hi : Inv G m h w) (he : ERel m env a) {c : Call} (ho : o.op = .call c) (hc : c.callee = .builtin .copy) (hev : evEff P o env h K = some r) : EffOK P G m w a o K r := by
  simp only [evEff, ho, hc] at hev
  have hds : isDs o.op = true := by rw [ho]; simp [isDs, hc]
  have hnods : ∀ {q : Prop}, isDs o.op = false → q := fun h0 => by rw [hds] at h0; cases h0
  split at hev
  · rename_i vd vb e hargs ht
    obtain ⟨x, y, hl, hx, hy⟩ := (argVals_rel he hargs).two
    split at hev
    · rename_i id off lo len cap hsf
      split at hev
      · rename_i es hid
        split at hev
        · rename_i pre k n l post htk hdr
          split at hev
          · rename_i hsz
            split at hev
            · rename_i l2 hvis
              obtain ⟨g, A, C, hg, hxv, hle, hcap, hln, hbb⟩ := sliceForm_rel hi hsf hx
              obtain ⟨hlenR, hfst, _⟩ := visK_run (P := P) hi hy hvis
              obtain ⟨consts, hrun⟩ := run_builtin (P := P) (a := a) c hc ho
              obtain ⟨t0, ht0, htu⟩ := arg0_of ht
              obtain ⟨i, hin, hiz⟩ := szOf_info hsz k.w_pos
              obtain ⟨hsg, cs, hoc, hpl⟩ := hi.obs id _ g hid hg
              obtain ⟨hlen, hew⟩ := hsg off k n l post hdr
              obtain ⟨t1, t2⟩ := takeW_cells htk hoc
              obtain ⟨_, c1, c2, hcs, ⟨hl1, rfl⟩, hpost⟩ := dropW_cells hdr hoc
              have hmin : Nat.min l2.length len ≤ l2.length := Nat.min_le_left _ _
              have hfc := hfst w (Ext.refl w) (Nat.min l2.length len) hmin
              have htake : l2.take (Nat.min l2.length len) = l2.take len := by
                apply List.ext_getElem?
                intro j
                rw [List.getElem?_take, List.getElem?_take]
                have : Nat.min l2.length len = min l2.length len := rfl
                by_cases h1 : j < len
                · by_cases h2 : j < l2.length
                  · rw [if_pos (by omega), if_pos h1]
                  · rw [if_neg (by omega), if_pos h1, List.getElem?_eq_none (by omega)]
                · rw [if_neg (by omega), if_neg h1]
              rw [htake] at hfc
              have htl : (l2.take len).length = min l2.length len := by rw [List.length_take, Nat.min_comm]
              have hlo : lo + len ≤ l.length := by
                rw [hlen]
                cases cap with
                | none => simpa using hln
                | some cc => have := hcap cc rfl; simp only [Option.getD_some] at hln; omega
              have hes : es = pre ++ .seq k n l :: post := take_drop htk hdr
              have hnl : (l.take lo ++ (l2.take len ++ l.drop (lo + min l2.length len))).length = l.length := by
                simp only [List.length_append, List.length_take, List.length_drop]; omega
              have hmi : min (l2.length : Int) (len : Int) = ((min l2.length len : Nat) : Int) := by omega
              by_cases hz : min l2.length len = 0
              · have hr : (execOp a.eval o).run P w = .ok (.value (.int .i64 ((min l2.length len : Nat) : Int))) w := by
                  have e0 : l2.take len = [] := List.eq_nil_of_length_eq_zero (by rw [htl]; exact hz)
                  rw [e0] at hfc
                  rw [hrun, args2 hl, hxv]
                  cases A with
                  | none => simp [builtin, Builtin.copy_, ht0, run_under htu, run_size hin, hiz, hlenR, hfc, goInt]
                  | some p => simp [builtin, Builtin.copy_, ht0, run_under htu, run_size hin, hiz, hlenR, hfc, goInt, cvs, storeCells]
                have hsame : l.take lo ++ (l2.take len ++ l.drop (lo + min l2.length len)) = l := by
                  have e0 : l2.take len = [] := List.eq_nil_of_length_eq_zero (by rw [htl]; exact hz)
                  rw [e0, hz]
                  simp
                have hput : Inv G m (hset h id (some ⟨false, pre ++ .seq k n (l.take lo ++ (l2.take len ++ l.drop (lo + min l2.length len))) :: post⟩)) w := by
                  rw [hsame, ← hes]
                  have : hset h id (some ⟨false, es⟩) = h := hset_self hid
                  rw [this]; exact hi
                exact ⟨_, _, hev, _, _, w, m, hr, .inl rfl, hput, Pre.refl m, .inr rfl, hnods⟩
              · rcases hbb with hbb | ⟨b, hbb, hA, hsz2⟩
                · omega
                · have hcl : cs.length = off + (l.length * k.w + c2.length) := by
                    have := congrArg List.length hcs
                    simp only [List.length_drop, List.length_append, cvs_length] at this
                    omega
                  have hns : (cvs k (l2.take len)).length = min l2.length len * k.w := by rw [cvs_length, htl]
                  have hfit : (lo + min l2.length len) * k.w ≤ l.length * k.w := Nat.mul_le_mul_right _ (by omega)
                  rw [Nat.add_mul] at hfit
                  have hle2 : off + lo * g.ew off + (cvs k (l2.take len)).length ≤ cs.length := by rw [hns, ← hew]; omega
                  obtain ⟨w', r1, r2, r3⟩ := store_cells (P := P) hi hid hg hbb hoc hpl hle2 (cvs_leaf k _)
                  have hr : (execOp a.eval o).run P w = .ok (.value (.int .i64 ((min l2.length len : Nat) : Int))) w' := by
                    rw [hrun, args2 hl, hxv, hA]
                    simp [builtin, Builtin.copy_, ht0, run_under htu, run_size hin, hiz, hlenR, hfc, goInt, r1]
                  have hcells : cs.take off ++ (cvs k (l.take lo ++ (l2.take len ++ l.drop (lo + min l2.length len))) ++ c2) = splice cs (off + lo * g.ew off) (cvs k (l2.take len)) := by
                    have e1 : cvs k (l.take lo ++ (l2.take len ++ l.drop (lo + min l2.length len))) = splice (cvs k l) (lo * k.w) (cvs k (l2.take len)) := by
                      rw [cvs_append, cvs_append, cvs_take, cvs_drop]
                      simp only [splice]
                      rw [hns, Nat.add_mul]
                    rw [e1, ← hew]
                    have h0 : (cs.take off).length = off := by rw [List.length_take]; omega
                    apply List.ext_getElem?
                    intro j
                    have hcs' : cs = cs.take off ++ (cvs k l ++ c2) := by rw [← hcs, List.take_append_drop]
                    have hs1 : lo * k.w + (cvs k (l2.take len)).length ≤ (cvs k l).length := by rw [hns, cvs_length]; omega
                    rw [splice_get (by rw [← hew] at hle2; exact hle2)]
                    by_cases d1 : j < off
                    · rw [List.getElem?_append_left (by omega), if_pos (by omega), List.getElem?_take, if_pos d1]
                    · have hcj : cs[j]? = (cvs k l ++ c2)[j - off]? := by
                        rw [← hcs, List.getElem?_drop]; congr 1; omega
                      rw [List.getElem?_append_right (by omega), h0, hcj]
                      by_cases d2 : j - off < (cvs k l).length
                      · rw [List.getElem?_append_left (by rw [splice_length hs1]; exact d2), splice_get hs1, List.getElem?_append_left d2]
                        by_cases d3 : j - off < lo * k.w
                        · rw [if_pos d3, if_pos (show j < off + lo * k.w by omega)]
                        · rw [if_neg d3, if_neg (show ¬ j < off + lo * k.w by omega)]
                          by_cases d4 : j - off < lo * k.w + (cvs k (l2.take len)).length
                          · rw [if_pos d4, if_pos (show j < off + lo * k.w + (cvs k (l2.take len)).length by omega)]
                            congr 1; omega
                          · rw [if_neg d4, if_neg (show ¬ j < off + lo * k.w + (cvs k (l2.take len)).length by omega)]
                      · rw [List.getElem?_append_right (by rw [splice_length hs1]; omega), List.getElem?_append_right (by omega), splice_length hs1, if_neg (by omega), if_neg (by omega)]
                  refine ⟨_, _, hev, _, _, w', m, hr, .inl rfl, hi.put hid hg hbb r2 ⟨seqG_xsh (es := es) (by rw [hes]; simp only [List.map_append, List.map_cons, xsh, hnl]) hsg, _, ?_, r3⟩, Pre.refl m, .inr rfl, hnods⟩
                  rw [← hcells]
                  exact ocells_append.2 ⟨_, _, rfl, t2, _, _, rfl, ⟨by rw [hnl]; exact hl1, rfl⟩, hpost⟩
            · cases hev
          · cases hev
        · cases hev
      · cases hev
    · cases hev
  · cases hev

theorem evEff_sound (hi : Inv G m h w) (he : ERel m env a) (hev : evEff P o env h K = some r) : EffOK P G m w a o K r := by
  cases ho : o.op with
  | alloc t => exact eff_alloc hi ho hev
  | box t x => exact eff_box hi he ho hev
  | store t x y => exact eff_store hi he ho hev
  | convert src dst x => exact eff_convert hi he ho hev
  | makeSlice t l c => exact eff_makeSlice hi he ho hev
  | buildSlice t n ps => exact eff_buildSlice hi he ho hev
  | call c =>
    cases hc : c.callee with
    | builtin b =>
      cases b with
      | append => exact eff_append hi he ho hc hev
      | copy => exact eff_copy hi he ho hc hev
      | _ => simp only [evEff, ho, hc] at hev; cases hev
    | _ => simp only [evEff, ho, hc] at hev; cases hev
  | _ => simp only [evEff, ho] at hev; cases hev

end
end Go.Proofs.Ytlokielmpdjedaa.Ev
