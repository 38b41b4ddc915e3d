/- Merged: EvS10, EvS11, EvS12, EvS13, EvS14, EvS15, EvS16, EvS17, EvF95, EvF52, EvF102, EvF72, EvF57. -/
import Derived.Test.YtillbabmlfjegaaMWalkNil1
import Derived.OrdersHeld
import Derived.LoopN
import Derived.Scope
import Derived.ScopeJumps
import Derived.Laws.Sem
import Derived.Test.YtillbabmlfjegaaProg
import Derived.KernelRfl
section
/- The evaluator is sound, tenth part: slices that are made, appended to, copied. -/
namespace Go.Proofs.Ytillbabmlfjegaa.Ev
open Go
set_option linter.unusedVariables false

variable {P : Program}

section
variable {G : Ctx} {m : GM} {h : Heap} {w w' : World} {a : Act} {env : Env} {o : Oper} {K : AV → Heap → Option Res} {r : Res}

theorem elemOf_rel {e : TypeId} {k : EK} {z : k.den} (he : elemOf P e = some ⟨k, z⟩) : ∃ i v, P.info? e = some i ∧ i.size = k.w ∧ i.zero = some v ∧ v.cells.toList = k.cv z ∧ 0 < i.bytes := by
  unfold elemOf at he
  split at he
  · rename_i k' hk
    split at he
    · rename_i hsz
      split at he
      · rename_i es hz
        split at he
        · rename_i z' hz'
          simp only [Option.some.injEq, Sigma.mk.injEq] at he
          obtain ⟨rfl, he⟩ := he
          have he := eq_of_heq he
          subst he
          obtain ⟨i, v, hi, hv, hoc⟩ := zeroE_cells (m := []) hz
          refine ⟨i, v, hi, ?_, hv, of1_cells _ hz' hoc, ?_⟩
          · simpa [szOf, hi] using hsz.1
          · simpa [bytesOf, hi] using hsz.2
        · cases he
      · cases he
    · cases he
  · cases he

theorem made_cells {k : EK} {z : k.den} {v : Value} (hv : v.cells.toList = k.cv z) (n : Nat) :
    ((Array.range (n * k.w)).map (v.cells[· % v.cells.size]!)).toList = cvs k (List.replicate n z) := by
  have hs : v.cells.size = k.w := by
    have := congrArg List.length hv
    rw [cv_length] at this
    simpa using this
  apply List.ext_getElem?
  intro j
  by_cases hj : j < n * k.w
  · have hd : j / k.w < n := Nat.div_lt_of_lt_mul (by rw [Nat.mul_comm]; exact hj)
    have hm : j % k.w < k.w := Nat.mod_lt _ k.w_pos
    have h1 := cvs_getD k (List.replicate n z) (j / k.w) (by simpa using hd) (j % k.w) hm
    have h2 : j / k.w * k.w + j % k.w = j := by rw [Nat.mul_comm]; exact Nat.div_add_mod j k.w
    rw [h2] at h1
    rw [h1]
    have h3 : (List.replicate n z).getD (j / k.w) k.zero = z := by simp [List.getD_eq_getElem?_getD, hd]
    rw [h3, ← hv]
    have hlt : j % v.cells.size < v.cells.size := by rw [hs]; exact hm
    simp only [Array.toList_map, Array.toList_range, List.getElem?_map, List.getElem?_range hj, Option.map_some, Array.getElem?_toList]
    rw [hs] at hlt ⊢
    rw [Array.getElem?_eq_getElem (by rw [hs]; exact hlt)]
    rw [getElem!_pos _ _ (by rw [hs]; exact hlt)]
  · have h1 : ((Array.range (n * k.w)).map (v.cells[· % v.cells.size]!)).toList.length ≤ j := by simp; omega
    have h2 : (cvs k (List.replicate n z)).length ≤ j := by rw [cvs_length]; simp; omega
    rw [List.getElem?_eq_none h1, List.getElem?_eq_none h2]

theorem full_rel {g : Gh} (hg : m[h.length]? = some g) {nb sz n : Nat} {k : EK} {l : List k.den} (hgh : g = ghOf (some (nb, 0)) sz [.seq k 0 l]) {c : Nat} (hl : l.length ≤ c) (hsz : c * k.w ≤ sz) :
    LRel m (.full h.length) (.slice (some ⟨nb, 0, none⟩) l.length c) := by
  subst hgh
  refine ⟨_, hg, _, some ⟨nb, 0, none⟩, c, hg, ?_, ?_, ?_, ?_, ?_⟩
  · simp [ghOf, drop0]
  · simpa [ghOf, drop0] using hl
  · intro c' hc; cases hc
  · simp
  · refine .inr ⟨(nb, 0), rfl, ?_, ?_⟩
    · simp [at_]
    · simpa [ghOf, drop0] using hsz

theorem seq_cells (m : GM) (k : EK) (l : List k.den) : OCells m [.seq k 0 l] (cvs k l) := ⟨_, [], (List.append_nil _).symm, ⟨.inl rfl, rfl⟩, rfl⟩

theorem eff_buildSlice (hi : Inv G m h w) (he : ERel m env a) {t : TypeId} {n : Nat} {parts : Array (Nat × Operand)} (ho : o.op = .buildSlice t n parts) (hev : evEff P o env h K = some r) : EffOK P G m w a o K r := by
  simp only [evEff, ho] at hev
  split at hev
  · rename_i e ht
    split at hev
    · rename_i k z ps hel hps
      split at hev
      · cases hev
      · rename_i hbig
        split at hev
        · rename_i l hput
          obtain ⟨i, v, hin, hiz, hzz, hcv, hbpos⟩ := elemOf_rel hel
          have hpt := partsOf_rel he hps
          have hmade := made_cells hcv n
          have hz0 : ∃ cells0 : Array Value, ((n * i.size = 0 ∧ cells0 = #[]) ∨ (¬ n * i.size = 0 ∧ cells0 = v.cells)) ∧
              ((Array.range (n * i.size)).map (cells0[· % cells0.size]!)).toList = cvs k (List.replicate n z) := by
            by_cases hz : n * i.size = 0
            · refine ⟨#[], .inl ⟨hz, rfl⟩, ?_⟩
              rw [hiz] at hz
              have : n = 0 := by
                rcases Nat.mul_eq_zero.1 hz with h0 | h0
                · exact h0
                · have := k.w_pos; omega
              subst this
              simp [hiz, cvs]
            · refine ⟨v.cells, .inr ⟨hz, rfl⟩, ?_⟩
              rw [hiz]; exact hmade
          obtain ⟨cells0, hr0, hc0⟩ := hz0
          obtain ⟨cs', hf, hcs', hlen⟩ := fill_elems (k := k) (sz := i.size) hiz parts.toList ps (List.replicate n z) l _ hpt hput hc0
          have hlen' : l.length = n := by simpa using hlen
          have hsz : cs'.size = n * k.w := by
            have := congrArg List.length hcs'
            rw [cvs_length, hlen'] at this
            simpa using this
          refine ⟨_, _, hev, _, .slice (some ⟨w.heap.size, 0, none⟩) n n, pushB w (.cells cs' e), _, ?_, .inl rfl,
            hi.new (t := e) (fr := (0, 0)) (blk := cs') (seq_cells m k l) (by rw [← hcs']; simp) (fun j hj => by rw [← hcs']; simp) (.inl rfl), pre_append _ _, .inr ?_, fun _ => ext_push w _⟩
          · have hparts : (parts.map fun (x : Nat × Operand) => (x.1, a.eval x.2)).toList = parts.toList.map fun p => (p.1, a.eval p.2) := by simp
            have hb : ¬ (n * i.size > 2 ^ 24) := by rw [hiz]; exact hbig
            rcases hr0 with ⟨hz, rfl⟩ | ⟨hz, rfl⟩
            · simp only [execOp, ho, Instr.buildSlice, Sem.run_bind, run_under ht, Result.andThen_ok, run_size hin, if_neg hb, if_pos hz, hparts, hf, Sem.run_pure, newRow, run_newObj]
              rfl
            · simp only [execOp, ho, Instr.buildSlice, Sem.run_bind, run_under ht, Result.andThen_ok, run_size hin, if_neg hb, if_neg hz, zero_run hin hzz, hparts, hf, Sem.run_pure, newRow, run_newObj]
              rfl
          · have := full_rel (m := m ++ [ghOf (some (w.heap.size, 0)) cs'.size [.seq k 0 l]]) (h := h) (by rw [← hi.len]; exact gm_app_new) rfl (c := n) (n := 0) (by omega) (by omega)
            rw [hlen'] at this
            exact this
        · cases hev
    · cases hev
  · cases hev


theorem hset_self' : ∀ {h : Heap} {id : Nat} {ob : Ob}, hget h id = some ob → hset h id (some ob) = h
  | [], id, ob, hg => by simp [hget] at hg
  | x :: r, 0, ob, hg => by simp only [hget] at hg; simp [hset, hg]
  | x :: r, n + 1, ob, hg => by simp only [hget] at hg; simp [hset, hset_self' hg]

theorem eff_convert (hi : Inv G m h w) (he : ERel m env a) {src dst : TypeId} {x : Operand} (ho : o.op = .convert src dst x) (hev : evEff P o env h K = some r) : EffOK P G m w a o K r := by
  simp only [evEff, ho] at hev
  split at hev
  · rename_i e s hs hd hx
    have hv : a.eval x = .string s := opd_rel he hx
    split at hev
    · rename_i z hu hel
      obtain ⟨i, zv, hin, hiz, hzz, hcv, hbpos⟩ := elemOf_rel hel
      have hsz : (toInts s).length = s.size := by simp [toInts]
      have hc : ∀ l : List UInt8, cvs (.int .u8) (l.map fun c => (c.toNat : Int)) = l.map fun c => Value.int .u8 (c.toNat : Int) := by
        intro l
        induction l with
        | nil => rfl
        | cons c l ih => simp only [List.map_cons, cvs, EK.cv, ih]; rfl
      obtain ⟨cap, hcap, hle⟩ : ∃ cap, (choose (.appendCap s.size 0 e)).run P w = .ok cap { w with drawn := w.drawn + 1 } ∧ s.size ≤ cap :=
        ⟨_, rfl, Nat.le_add_right _ _⟩
      let blk : Array Value := (s.data.map fun b => .int .u8 b.toNat) ++ Array.replicate (cap - s.size) (.int .u8 0)
      have hblk : blk.size = cap := by
        have : s.data.size = s.size := rfl
        simp only [blk, Array.size_append, Array.size_map, Array.size_replicate, this]; omega
      let w1 : World := { w with drawn := w.drawn + 1 }
      let w2 : World := pushB w1 (.cells blk e)
      let w3 : World := w2.freeze { block := w.heap.size, off := blk.size } 1
      have hsh : w2.shape? w.heap.size = some (e, blk.size) := by
        have : w2.heap[w.heap.size]? = some (.cells blk e) := push_get w1 _
        simp only [World.shape?, this]
      have hrun : (execOp a.eval o).run P w = .ok (.value (.slice (some ⟨w.heap.size, 0, none⟩) s.size cap)) w3 := by
        have hstb : (Conv.stringToBytes e s).run P w = .ok (.slice (some ⟨w.heap.size, 0, none⟩) s.size cap) w3 := by
          simp only [Conv.stringToBytes, Sem.run_bind, hcap, Result.andThen_ok, newRow, run_newObj, Sem.run_pure, markStringish, run_shape]
          have hsh2 : World.shape? { heap := w.heap.push (.cells blk e), tape := w.tape, drawn := w.drawn + 1, os := w.os, output := w.output } w.heap.size = some (e, blk.size) := hsh
          rw [hsh2]
          rfl
        have hconv : (convert src dst (.string s)).run P w = .ok (.slice (some ⟨w.heap.size, 0, none⟩) s.size cap) w3 := by
          simp only [convert, Sem.run_bind, run_under hs, run_under hd, Result.andThen_ok, run_under hu, hstb]
        simp only [execOp, ho, hv, Sem.run_bind, hconv, Result.andThen_ok, Sem.run_pure]
      have hfz : w3.heap[w.heap.size]? = some (.cells blk e (blk.size, blk.size + 1)) := by
        have : w2.heap[w.heap.size]? = some (.cells blk e) := push_get w1 _
        have hlt : w.heap.size < w2.heap.size := (Array.getElem?_eq_some_iff.1 this).1
        simp only [w3, World.freeze, Nat.one_ne_zero, if_false, Array.getElem?_modify]
        rw [if_pos trivial, this]
        rfl
      have hext : Ext w w3 := ⟨⟨rfl, rfl, rfl⟩, by simp [w3, w2, w1, World.freeze, pushB], fun b hb => by
        have : w2.heap[b]? = w.heap[b]? := (ext_push w1 _).block b hb
        rw [← this]
        simp only [w3, World.freeze]
        simp only [Nat.one_ne_zero, if_false, Array.getElem?_modify]
        rw [if_neg (by omega)]⟩
      have hcs : cvs (.int .u8) (toInts s) = s.data.toList.map fun c => Value.int .u8 (c.toNat : Int) := hc _
      refine ⟨_, _, hev, _, .slice (some ⟨w.heap.size, 0, none⟩) s.size cap, w3, _, hrun, .inl rfl,
        hi.new' (nb := w.heap.size) hext (Nat.le_refl _) (es := [.seq (.int .u8) 0 (toInts s)]) (cs := cvs (.int .u8) (toInts s)) (blk := blk) hfz (seq_cells m (.int .u8) (toInts s)) (by rw [cvs_length, hsz, hblk]; simp [EK.w]; exact hle)
          (fun j hj => ?_) (.inr (Nat.le_refl _)), pre_append _ _, .inr ?_, fun _ => hext⟩
      · rw [hcs]
        rw [cvs_length, hsz] at hj
        simp only [EK.w, Nat.mul_one] at hj
        have hj' : j < s.data.size := hj
        simp only [blk]
        rw [Array.getElem?_append_left (by simpa using hj')]
        simp
      · have := full_rel (m := m ++ [ghOf (some (w.heap.size, 0)) blk.size [.seq (.int .u8) 0 (toInts s)]]) (h := h) (by rw [← hi.len]; exact gm_app_new) rfl (c := cap) (n := 0) (by rw [hsz]; exact hle) (by simp [EK.w, hblk])
        rw [hsz] at this
        exact this
    · cases hev
  · rename_i e0 e id hs hd hx
    have hv : LRel m (.full id) (a.eval x) := opd_rel he hx
    split at hev
    · rename_i k q l hu hob
      split at hev
      · rename_i hsd
        subst hsd
        obtain rfl : e0 = e := by rw [hs] at hd; cases hd; rfl
        obtain ⟨hl0, hev⟩ := dec_of hev
        obtain ⟨g, hg, g', A, C, hg', hval, hle, -, hlen, hA⟩ := hv
        rw [hg] at hg'; cases hg'
        have hln := ((hi.obs _ _ g hob hg).1 0 k q l [] (drop0 _)).1
        rcases hA with hA | ⟨b, hb, rfl, hbd⟩
        · rw [← hln] at hle; omega
        obtain ⟨hsq, cs, hoc, hpl⟩ := hi.obs _ _ g hob hg
        rcases hpl with ⟨_, hn⟩ | ⟨b', blk, t, fr, hb', hblk, hsz, hle2, hcell, hfr⟩
        · rw [hb] at hn; cases hn
        rw [hb] at hb'; cases hb'
        have hfr := hfr rfl
        obtain ⟨fr', hfr', hw⟩ : ∃ fr', FrOk fr' g.sz ∧ (w.freeze { block := b.1, off := blk.size } 1).heap[b.1]? = some (.cells blk t fr') := by
          obtain ⟨f1, f2⟩ := fr
          refine ⟨if f1 == f2 then (blk.size, blk.size + 1) else (min f1 blk.size, max f2 (blk.size + 1)), ?_, ?_⟩
          · unfold FrOk at hfr ⊢
            simp only at hfr
            by_cases hf : f1 = f2
            · simp [hf]; omega
            · have : (f1 == f2) = false := by simpa using hf
              rw [this]
              simp only [Bool.false_eq_true, if_false]
              omega
          · simp only [World.freeze, Nat.one_ne_zero, if_false, Array.getElem?_modify]
            rw [if_pos trivial, hblk]
            rfl
        have hob2 : OnlyB w (w.freeze { block := b.1, off := blk.size } 1) b.1 := ⟨⟨rfl, rfl, rfl⟩, by simp [World.freeze], fun c hc => by
          simp only [World.freeze, Nat.one_ne_zero, if_false, Array.getElem?_modify]
          rw [if_neg (fun h => hc h.symm)]⟩
        have hsh : w.shape? b.1 = some (t, blk.size) := by
          simp only [World.shape?, hblk]
        have hrun : (execOp a.eval o).run P w = .ok (.value (a.eval x)) (w.freeze { block := b.1, off := blk.size } 1) := by
          have hconv : (convert src src (a.eval x)).run P w = .ok (a.eval x) (w.freeze { block := b.1, off := blk.size } 1) := by
            rw [hval]
            simp only [convert, Sem.run_bind, run_under hs, Result.andThen_ok, run_under hu, beq_self_eq_true, markStringish, run_shape, at_, hsh]
            rfl
          simp only [execOp, ho, Sem.run_bind, hconv, Result.andThen_ok, Sem.run_pure]
        have hi' := hi.put (es' := [.seq k q l]) hob hg hb hob2 ⟨hsq, cs, hoc, .inr ⟨b, blk, t, fr', hb, hw, hsz, hle2, hcell, fun _ => hfr'⟩⟩
        rw [hset_self' hob] at hi'
        refine ⟨_, _, hev, _, a.eval x, _, m, hrun, .inl rfl, hi', Pre.refl m, .inr ?_, fun hds => ?_⟩
        · exact opd_rel he hx
        · rw [ho] at hds; simp [isDs] at hds
      · cases hev
    · cases hev
  · cases hev

theorem wrap_id {n : Int} (h0 : 0 ≤ n) (h1 : n ≤ 70368744177664) : IntKind.i64.wrap n = n := by
  exact IntWalk.i64_in _ (by omega)

theorem sameOpd_val {l c : Operand} {kl kc : IntKind} {n mm : Int} (hsame : sameOpd l c = true) (hl : a.eval l = .int kl n) (hc : a.eval c = .int kc mm) : n = mm := by
  unfold sameOpd at hsame
  split at hsame
  · rename_i p q
    have : p = q := by simpa using hsame
    subst this
    rw [hl] at hc
    injection hc
  · rename_i k1 p k2 q
    have : p = q := by simpa using hsame
    subst this
    have e1 : Value.int k1 p = .int kl n := hl
    have e2 : Value.int k2 p = .int kc mm := hc
    injection e1 with _ e1
    injection e2 with _ e2
    rw [← e1, ← e2]
  · cases hsame

theorem eff_makeSlice (hi : Inv G m h w) (he : ERel m env a) {t : TypeId} {l c : Operand} (ho : o.op = .makeSlice t l c) (hev : evEff P o env h K = some r) : EffOK P G m w a o K r := by
  simp only [evEff, ho] at hev
  split at hev
  · rename_i e n mm ht hl hc
    obtain ⟨kl, hl'⟩ := int_opd he hl
    obtain ⟨kc, hc'⟩ := int_opd he hc
    split at hev
    · rename_i k z hel
      obtain ⟨⟨h0, h1, h2, h3⟩, hev⟩ := dec_of hev
      obtain ⟨i, v, hin, hiz, hzz, hcv, hbpos⟩ := elemOf_rel hel
      have hb : bytesOf P e = i.bytes := by simp [bytesOf, hin]
      have hmade := made_cells hcv mm.toNat
      have hwn := wrap_id h0 (by omega)
      have hwm := wrap_id (n := mm) (by omega) h2
      have hbytes : ¬ ((i.bytes : Int) * mm > 2 ^ 48) := by
        rw [hb, Int.mul_comm] at h3; omega
      have hz0 : ∃ cells0 : Array Value, ((mm.toNat * i.size = 0 ∧ cells0 = #[]) ∨ (¬ mm.toNat * i.size = 0 ∧ cells0 = v.cells)) ∧
          ((Array.range (mm.toNat * i.size)).map (cells0[· % cells0.size]!)).toList = cvs k (List.replicate mm.toNat z) := by
        by_cases hz : mm.toNat * i.size = 0
        · refine ⟨#[], .inl ⟨hz, rfl⟩, ?_⟩
          rw [hiz] at hz
          have : mm.toNat = 0 := by
            rcases Nat.mul_eq_zero.1 hz with h0 | h0
            · exact h0
            · have := k.w_pos; omega
          rw [this]
          simp [hiz, cvs]
        · refine ⟨v.cells, .inr ⟨hz, rfl⟩, ?_⟩
          rw [hiz]; exact hmade
      obtain ⟨cells0, hr0, hc0⟩ := hz0
      generalize hblk : (Array.range (mm.toNat * i.size)).map (cells0[· % cells0.size]!) = blk at hc0
      have hsz : blk.size = mm.toNat * k.w := by
        have := congrArg List.length hc0
        rw [cvs_length] at this
        simpa using this
      have hrun : (execOp a.eval o).run P w = .ok (.value (.slice (some ⟨w.heap.size, 0, none⟩) n.toNat mm.toNat)) (pushB w (.cells blk e)) := by
        have ht1 : (decide (mm < 0) || decide ((i.bytes : Int) * mm > 2 ^ 48) || decide (n < 0) || decide (n > mm)) = false := by
          simp only [Bool.or_eq_false_iff, decide_eq_false_iff_not]
          exact ⟨⟨⟨by omega, hbytes⟩, by omega⟩, by omega⟩
        have hti : (typeInfo e).run P w = .ok i w := by simp [typeInfo, hin]
        rcases hr0 with ⟨hz, rfl⟩ | ⟨hz, rfl⟩
        · simp only [execOp, ho, Instr.makeSlice, Sem.run_bind, run_under ht, Result.andThen_ok, hl', hc', asInt, asIntOf, Sem.run_pure, hti, hwn, hwm, ht1, Bool.false_eq_true, if_false, run_askRoom, run_size hin, if_pos hz, newRow, run_newObj, hblk]
          rfl
        · simp only [execOp, ho, Instr.makeSlice, Sem.run_bind, run_under ht, Result.andThen_ok, hl', hc', asInt, asIntOf, Sem.run_pure, hti, hwn, hwm, ht1, Bool.false_eq_true, if_false, run_askRoom, run_size hin, if_neg hz, zero_run hin hzz, newRow, run_newObj, hblk]
          rfl
      have hg : (m ++ [ghOf (some (w.heap.size, 0)) blk.size [.seq k 0 (List.replicate mm.toNat z)]])[h.length]? = some (ghOf (some (w.heap.size, 0)) blk.size [.seq k 0 (List.replicate mm.toNat z)]) := by
        rw [← hi.len]; exact gm_app_new
      refine ⟨_, _, hev, _, _, _, _, hrun, .inl rfl,
        hi.new (t := e) (fr := (0, 0)) (blk := blk) (seq_cells m k (List.replicate mm.toNat z)) (by rw [← hc0]; simp) (fun j hj => by rw [← hc0]; simp) (.inl rfl), pre_append _ _, .inr ?_, fun _ => ext_push w _⟩
      by_cases hsame : sameOpd l c = true
      · rw [if_pos hsame]
        have hnm : n = mm := sameOpd_val hsame hl' hc'
        subst hnm
        have := full_rel (h := h) hg rfl (c := n.toNat) (n := 0) (by simp) (by rw [hsz]; simp)
        rw [List.length_replicate] at this
        exact this
      · rw [if_neg hsame]
        refine ⟨_, some ⟨w.heap.size, 0, none⟩, mm.toNat, hg, rfl, by omega, fun c' hc' => by cases hc'; rfl, ?_, .inr ⟨(w.heap.size, 0), rfl, ?_, ?_⟩⟩
        · simp [ghOf, drop0]
        · simp [at_]
        · simp [ghOf, drop0, hsz]
    · cases hev
  · cases hev


/-- What is shown of an append. -/
theorem append_core (hi : Inv G m h w) {c : Call} {e : TypeId} {k : EK} {i : TypeInfo} {z : Value} {x y : Operand} {l1 l2 : List k.den} {b : LV} (ho : o.op = .call c) (hc : c.callee = .builtin .append) (hl : c.args.toList = [x, y])
    (ht : arg0T P c = some (.slice e)) (h1 : arg1Ok P c = true) (hin : P.info? e = some i) (hiz : i.size = k.w) (hzz : i.zero = some z) (hzs : z.cells.size = k.w) (hbp : 0 < i.bytes) (hb : LRel m b (a.eval y)) (hvis : visK k h b = some l2)
    {A : Option Addr} {C : Nat} (hx : a.eval x = .slice A l1.length C) (hC : l1.length ≤ C) (hsize : (l1.length + l2.length) * i.bytes ≤ 70368744177664)
    (hrd : ∀ w', Ext w w' → l1.length ≠ 0 → ∃ p, A = some p ∧ ∀ j u, (cvs k l1)[j]? = some u → w'.cell? (p.add j) = some u) :
    (l1.length + l2.length ≤ C ∧ ∀ w', (match A with | some p => (storeCells (p.add (l1.length * k.w)) (cvs k l2)).run P w = .ok () w' | none => w' = w) →
      (execOp a.eval o).run P w = .ok (.value (.slice A (l1.length + l2.length) C)) w') ∨
    (∃ C' blk w', C < l1.length + l2.length ∧ l1.length + l2.length ≤ C' ∧ (execOp a.eval o).run P w = .ok (.value (.slice (some ⟨w.heap.size, 0, none⟩) (l1.length + l2.length) C')) w' ∧
      Ext w w' ∧ w'.heap[w.heap.size]? = some (.cells blk e) ∧ blk.size = C' * k.w ∧ ∀ j, j < (cvs k (l1 ++ l2)).length → blk[j]? = (cvs k (l1 ++ l2))[j]?) := by
  obtain ⟨consts, hrun⟩ := run_builtin (P := P) (a := a) c hc ho
  obtain ⟨t0, ht0, htu⟩ := arg0_of ht
  obtain ⟨t1, d1, ht1, hd1, hd1'⟩ : ∃ t1 d1, c.argTypes[1]? = some t1 ∧ P.underlying t1 = some d1 ∧ ((∃ q, d1 = .slice q) ∨ d1 = .string) := by
    unfold arg1Ok at h1
    split at h1
    · rename_i t1 ht1
      split at h1
      · rename_i q hq; exact ⟨t1, _, ht1, hq, .inl ⟨q, rfl⟩⟩
      · rename_i hq; exact ⟨t1, _, ht1, hq, .inr rfl⟩
      · cases h1
    · cases h1
  obtain ⟨hlen, hfst, _⟩ := visK_run (P := P) hi hb hvis
  have hti : ∀ w : World, (typeInfo e).run P w = .ok i w := fun w => by simp [typeInfo, hin]
  have hlen' := hlen w
  have hneed : l1.length + l2.length ≤ 70368744177664 := Nat.le_trans (Nat.le_mul_of_pos_right _ hbp) hsize
  by_cases hroom : l1.length + l2.length ≤ C
  · refine .inl ⟨hroom, fun w' hst => ?_⟩
    have hfc := hfst w (Ext.refl w) l2.length (Nat.le_refl _)
    rw [List.take_length] at hfc
    rw [hrun, args2 hl, hx]
    have key : (Builtin.append_ c.argTypes o.type #[.slice A l1.length C, a.eval y]).run P w = .ok (.slice A (l1.length + l2.length) C) w' := by
      cases A with
      | none =>
        have hst' : w' = w := hst
        subst hst'
        rcases hd1' with ⟨q, rfl⟩ | rfl <;>
          simp [Builtin.append_, ht0, ht1, run_under htu, run_under hd1, run_size hin, hiz, hlen', hroom, hfc]
      | some p =>
        have hst' : (storeCells (p.add (l1.length * k.w)) (cvs k l2)).run P w = .ok () w' := hst
        rcases hd1' with ⟨q, rfl⟩ | rfl <;>
          simp [Builtin.append_, ht0, ht1, run_under htu, run_under hd1, run_size hin, hiz, hlen', hroom, hfc, hst']
    simp [builtin, key]
  · let need := l1.length + l2.length
    let C' := (Question.appendCap need C e).cut (w.tape w.drawn (.appendCap need C e))
    have hC' : need ≤ C' := Nat.le_add_right _ _
    let w1 : World := { w with drawn := w.drawn + 1 }
    have e1 : Ext w w1 := Ext.drew w
    have hfc := hfst w1 e1 l2.length (Nat.le_refl _)
    rw [List.take_length] at hfc
    have hfo : (Builtin.firstCells k.w l1.length (.slice A l1.length C)).run P w1 = .ok (cvs k l1).toArray w1 := by
      by_cases hz : l1.length = 0
      · have : l1 = [] := List.eq_nil_of_length_eq_zero hz
        subst this
        cases A with
        | none => simp [Builtin.firstCells, cvs]
        | some p =>
          have := run_loadCells_list (P := P) (w := w1) p [] (fun j u hu => by cases hu)
          simpa [Builtin.firstCells, cvs] using this
      · obtain ⟨p, rfl, hp⟩ := hrd w1 e1 hz
        have := run_loadCells_list (P := P) (w := w1) p (cvs k l1) hp
        rw [cvs_length] at this
        simpa [Builtin.firstCells] using this
    let blk : Array Value := (cvs k l1).toArray ++ (cvs k l2).toArray ++ Builtin.zeroCells z.cells (C' - need)
    have h63 : ¬ (((l1.length + l2.length : Nat) : Int) > IntKind.i64.max) := by
      have : IntKind.i64.max = 9223372036854775807 := by decide
      rw [this]; omega
    have h48 : ¬ (Builtin.nextslicecap (l1.length + l2.length) C * i.bytes > 2 ^ 48) := by
      have := growslice_fits (need := l1.length + l2.length) (old := C) (bytes := i.bytes) (by omega) (by omega)
      omega
    have key : (Builtin.append_ c.argTypes o.type #[.slice A l1.length C, a.eval y]).run P w = .ok (.slice (some ⟨w.heap.size, 0, none⟩) (l1.length + l2.length) C') (pushB w1 (.cells blk e)) := by
      have hch : (choose (.appendCap (l1.length + l2.length) C e)).run P w = .ok C' w1 := rfl
      have hzz' := fun w => zero_run hin hzz w
      rcases hd1' with ⟨q, rfl⟩ | rfl
      · simp only [Builtin.append_, ht0, ht1, Sem.run_bind, run_under htu, run_under hd1, Result.andThen_ok, run_size hin, hiz, Sem.run_pure, Bool.false_eq_true, if_false, hlen', List.getElem?_toArray, List.getElem?_cons_zero, List.getElem?_cons_succ, if_neg hroom, hti, h63, h48, false_and, hch, run_askRoom, hfo, Bool.not_false, if_true, hfc, hzz', newRow, run_newObj]
        rfl
      · simp only [Builtin.append_, ht0, ht1, Sem.run_bind, run_under htu, run_under hd1, Result.andThen_ok, run_size hin, hiz, Sem.run_pure, Bool.false_eq_true, if_false, hlen', List.getElem?_toArray, List.getElem?_cons_zero, List.getElem?_cons_succ, if_neg hroom, hti, h63, h48, false_and, hch, run_askRoom, hfo, Bool.not_false, if_true, hfc, hzz', newRow, run_newObj]
        rfl
    refine .inr ⟨C', blk, pushB w1 (.cells blk e), by omega, hC', ?_, e1.trans (ext_push w1 _), push_get w1 _, ?_, fun j hj => ?_⟩
    · rw [hrun, args2 hl, hx]
      simp [builtin, key]
    · simp only [blk, Array.size_append, List.size_toArray, cvs_length, size_zeroCells, hzs]
      rw [← Nat.add_mul, ← Nat.add_mul]
      congr 1
      show need + (C' - need) = C'
      omega
    · rw [cvs_append] at hj ⊢
      simp only [blk]
      rw [Array.getElem?_append_left (by simpa using hj)]
      simp


theorem pre_of_app {g : Gh} : Pre m (m ++ [g]) := pre_append m _

theorem full_nil {g : Gh} (hg : m[h.length]? = some g) {k : EK} {A : Option Addr} (hgh : g = ghOf none 0 [.seq k 0 []]) : LRel m (.full h.length) (.slice A 0 0) := by
  subst hgh
  refine ⟨_, hg, _, A, 0, hg, ?_, ?_, ?_, ?_, .inl rfl⟩
  · simp [ghOf, drop0]
  · simp [ghOf, drop0]
  · intro c' hc; cases hc
  · simp

theorem add_nil (hi : Inv G m h w) (k : EK) : Inv G (m ++ [ghOf none 0 [.seq k 0 []]]) (h ++ [some ⟨false, [.seq k 0 []]⟩]) w :=
  hi.add ⟨ghOf_seq _ _ _, [], seq_cells _ k [], .inl ⟨rfl, rfl⟩⟩ (fun b hb => by cases hb) (fun _ b hb => by cases hb)

theorem append_slice (hi : Inv G m h w) {c : Call} {e : TypeId} {k : EK} {i : TypeInfo} {z : Value} {x y : Operand} {l1 l2 : List k.den} {b : LV} (ho : o.op = .call c) (hc : c.callee = .builtin .append) (hl : c.args.toList = [x, y])
    (ht : arg0T P c = some (.slice e)) (h1 : arg1Ok P c = true) (hin : P.info? e = some i) (hiz : i.size = k.w) (hzz : i.zero = some z) (hzs : z.cells.size = k.w) (hbp : 0 < i.bytes) (hb : LRel m b (a.eval y)) (hvis : visK k h b = some l2)
    (hsize : (l1.length + l2.length) * i.bytes ≤ 70368744177664)
    {id lo n : Nat} {cap : Option Nat} {l : List k.den} (hid : hget h id = some ⟨false, [.seq k n l]⟩) (hsl : SlRel m id 0 lo l1.length cap (a.eval x))
    (hrd : ∀ A C, a.eval x = .slice A l1.length C → ∀ w', Ext w w' → l1.length ≠ 0 → ∃ p, A = some p ∧ ∀ j u, (cvs k l1)[j]? = some u → w'.cell? (p.add j) = some u)
    (hev : K (.tv (.lf (.full h.length))) (hset h id none ++ [some ⟨false, [.seq k 0 (l1 ++ l2)]⟩]) = some r) : EffOK P G m w a o K r := by
  obtain ⟨g, A, C, hg, hx, hle, hcap, hln, hbb⟩ := hsl
  have hds : isDs o.op = true := by rw [ho]; simp [isDs, hc]
  have hnods : ∀ {q : Prop}, isDs o.op = false → q := fun h0 => by rw [hds] at h0; cases h0
  have hlen2 : (hset h id none).length = h.length := hset_length _ _ _
  rcases append_core hi ho hc hl ht h1 hin hiz hzz hzs hbp hb hvis hx hle hsize (hrd A C hx) with ⟨hroom, hrun⟩ | ⟨C', blk, w', hlt, hC', hrun, hext, hblk, hbs, hcells⟩
  · by_cases hC0 : C = 0
    · subst hC0
      have e1 : l1 = [] := List.eq_nil_of_length_eq_zero (by omega)
      have e2 : l2 = [] := List.eq_nil_of_length_eq_zero (by omega)
      subst e1 e2
      have hr := hrun w (by
        cases A with
        | none => rfl
        | some p => simp [cvs, storeCells])
      have hadd := add_nil (hi.drop id) k
      refine ⟨_, _, hev, _, _, w, _, hr, .inl rfl, hadd, pre_append _ _, .inr ?_, hnods⟩
      have := full_nil (m := m ++ [ghOf none 0 [.seq k 0 []]]) (h := h) (k := k) (A := A) (by rw [← hi.len]; exact gm_app_new) rfl
      exact this
    · rcases hbb with hbb | ⟨bb, hbb, hA, hsz⟩
      · exact absurd hbb hC0
      · obtain ⟨hsg, cs, hoc, hpl⟩ := hi.obs id _ g hid hg
        obtain ⟨hlen, hew⟩ := hsg 0 k n l [] (drop0 _)
        rcases hpl with ⟨_, h0⟩ | ⟨b', blk, t', fr, q1, q2, q3, q4, q5, q6⟩
        · rw [hbb] at h0; cases h0
        · rw [hbb] at q1
          cases q1
          have hleaf := cvs_leaf k l2
          have hfit : (lo + (l1.length + l2.length)) * k.w ≤ (lo + C) * k.w := Nat.mul_le_mul_right _ (by omega)
          rw [← hew] at hsz hA
          simp only [Nat.zero_add, Nat.add_zero] at hsz hA
          have hfit2 : bb.2 + (lo * k.w + l1.length * k.w) + (cvs k l2).length ≤ blk.size := by
            rw [cvs_length, q3]
            simp only [Nat.add_mul] at hfit hsz
            omega
          obtain ⟨w', cur', s1, s2, s3, s4⟩ := run_storeCells_any (P := P) (g := bb.1) (o := bb.2 + (lo * k.w + l1.length * k.w)) (t := t') (fr := fr) (cvs k l2) 0 blk w q2 (by omega) hleaf (by rw [q3]; exact (q6 rfl).not)
          have hr := hrun w' (by
            subst hA
            simp only [add_at]
            exact s1)
          have hcs : cur'.size = blk.size := by
            have := congrArg List.length s4
            simp only [List.length_append, List.length_take, List.length_drop, Array.length_toList] at this
            omega
          let g' := ghOf (some (bb.1, bb.2 + lo * k.w)) g.sz [.seq k 0 (l1 ++ l2)]
          have hkill := hi.kill hid hg hbb s2
          have hadd : Inv G (m ++ [g']) (hset h id none ++ [some ⟨false, [.seq k 0 (l1 ++ l2)]⟩]) w' := by
            refine hkill.add ⟨ghOf_seq _ _ _, _, seq_cells _ k (l1 ++ l2), .inr ⟨_, cur', t', fr, rfl, s3, by rw [hcs]; exact q3, ?_, fun j hj => ?_, q6⟩⟩ (fun b2 hb2 => ?_) (fun _ b2 hb2 j oj gj c2 hj hro hgj hc2 => ?_)
            · rw [cvs_length, List.length_append]
              simp only [g', ghOf]
              simp only [Nat.add_mul] at hfit hsz ⊢
              omega
            · have e1 : cur'.toList = splice blk.toList (bb.2 + (lo * k.w + l1.length * k.w)) (cvs k l2) := by rw [s4]; simp [splice]
              have e2 : cur'[bb.2 + lo * k.w + j]? = (splice blk.toList (bb.2 + (lo * k.w + l1.length * k.w)) (cvs k l2))[bb.2 + lo * k.w + j]? := by rw [← e1]; simp
              rw [e2, splice_get (by simpa using hfit2), cvs_append]
              have hl1 : (cvs k l1).length = l1.length * k.w := cvs_length k l1
              by_cases c1 : j < l1.length * k.w
              · rw [if_pos (by omega), List.getElem?_append_left (by omega)]
                have hne : l1.length ≠ 0 := fun h0 => by rw [h0] at c1; simp at c1
                obtain ⟨p, hp, hcell⟩ := hrd A C hx w (Ext.refl w) hne
                rw [hA] at hp
                cases hp
                have := hcell j _ (List.getElem?_eq_getElem (by omega : j < (cvs k l1).length))
                rw [add_at] at this
                simp only [World.cell?, at_, q2] at this
                rw [List.getElem?_eq_getElem (by omega : j < (cvs k l1).length), ← this]
                simp [Nat.add_assoc]
              · rw [if_neg (by omega), List.getElem?_append_right (by omega), hl1]
                rw [cvs_append, List.length_append, hl1] at hj
                rw [if_pos (by omega)]
                congr 1; omega
            · cases hb2
              have := hi.own id _ g bb hid hg hbb
              exact this
            · cases hb2
              rcases hget_hset hj with ⟨_, h0⟩ | ⟨hne, hj⟩
              · cases h0
              · have := hi.apart hid hg hbb hne hj hgj hc2
                exact this
          refine ⟨_, _, hev, _, _, w', _, hr, .inl rfl, hadd, pre_append _ _, .inr ?_, hnods⟩
          have hgg : (m ++ [g'])[h.length]? = some g' := by rw [← hi.len]; exact gm_app_new
          have hlk : g'.ln 0 = l1.length + l2.length := by simp [g', ghOf, drop0]
          refine ⟨g', hgg, g', A, C, hgg, by rw [hlk], by rw [hlk]; exact hroom, fun c' hc => (by cases hc), by simp, .inr ⟨(bb.1, bb.2 + lo * k.w), rfl, ?_, ?_⟩⟩
          · rw [hA]; simp [at_]
          · simp only [g', ghOf, drop0]
            simp only [Nat.add_mul] at hsz ⊢
            omega
  · have hadd := (hi.drop id).new' hext (Nat.le_refl _) (es := [.seq k 0 (l1 ++ l2)]) hblk (seq_cells m k (l1 ++ l2)) (by rw [cvs_length, List.length_append, hbs]; exact Nat.mul_le_mul_right _ hC') hcells (.inl rfl)
    refine ⟨_, _, hev, _, _, w', _, hrun, .inl rfl, hadd, pre_append _ _, .inr ?_, hnods⟩
    have := full_rel (m := m ++ [ghOf (some (w.heap.size, 0)) blk.size [.seq k 0 (l1 ++ l2)]]) (h := h) (by rw [← hi.len]; exact gm_app_new) rfl (c := C') (n := 0) (by rw [List.length_append]; exact hC') (by rw [hbs]; exact Nat.le_refl _)
    rw [List.length_append] at this
    exact this


theorem eff_append (hi : Inv G m h w) (he : ERel m env a) {c : Call} (ho : o.op = .call c) (hc : c.callee = .builtin .append) (hev : evEff P o env h K = some r) : EffOK P G m w a o K r := by
  simp only [evEff, ho, hc] at hev
  have hds : isDs o.op = true := by rw [ho]; simp [isDs, hc]
  have hnods : ∀ {q : Prop}, isDs o.op = false → q := fun h0 => by rw [hds] at h0; cases h0
  split at hev
  · rename_i va vb e hargs ht
    obtain ⟨x, y, hl, hx, hy⟩ := (argVals_rel he hargs).two
    split at hev
    · rename_i k z hel
      obtain ⟨i, zv, hin, hiz, hzz, hcv, hbpos⟩ := elemOf_rel hel
      have hzs : zv.cells.size = k.w := by
        have := congrArg List.length hcv
        rw [cv_length] at this
        simpa using this
      have hbe : bytesOf P e = i.bytes := by simp [bytesOf, hin]
      split at hev
      · cases hev
      · rename_i hok
        have hok' : arg1Ok P c = true := by
          cases hq : arg1Ok P c with
          | true => rfl
          | false => exact absurd (by rw [hq]; rfl) hok
        split at hev
        · rename_i l2 hvis
          split at hev
          · rename_i q
            obtain ⟨hsize, hev⟩ := dec_of hev
            rw [hbe] at hsize
            have hx' : a.eval x = .slice none ([] : List k.den).length 0 := hx
            rcases append_core (l1 := []) hi ho hc hl ht hok' hin hiz hzz hzs hbpos hy hvis hx' (Nat.le_refl _) (by simpa using hsize) (fun _ _ h0 => absurd rfl h0) with ⟨hroom, hrun⟩ | ⟨C', blk, w', hlt, hC', hrun, hext, hblk, hbs, hcells⟩
            · have e2 : l2 = [] := List.eq_nil_of_length_eq_zero (by simpa using hroom)
              subst e2
              have hr := hrun w rfl
              refine ⟨_, _, hev, _, _, w, _, hr, .inl rfl, add_nil hi k, pre_append _ _, .inr ?_, hnods⟩
              exact full_nil (m := m ++ [ghOf none 0 [.seq k 0 []]]) (h := h) (k := k) (A := none) (by rw [← hi.len]; exact gm_app_new) rfl
            · rw [List.nil_append] at hcells
              have hadd := hi.new' hext (Nat.le_refl _) (es := [.seq k 0 l2]) hblk (seq_cells m k l2) (by
                rw [cvs_length, hbs]
                simp only [List.length_nil, Nat.zero_add] at hC'
                exact Nat.mul_le_mul_right _ hC') hcells (.inl rfl)
              refine ⟨_, _, hev, _, _, w', _, hrun, .inl rfl, hadd, pre_append _ _, .inr ?_, hnods⟩
              have := full_rel (m := m ++ [ghOf (some (w.heap.size, 0)) blk.size [.seq k 0 l2]]) (h := h) (by rw [← hi.len]; exact gm_app_new) rfl (c := C') (n := 0) (by simpa using hC') (by rw [hbs]; exact Nat.le_refl _)
              simp only [List.length_nil, Nat.zero_add]
              exact this
          · rename_i id
            split at hev
            · rename_i k' n l hid
              split at hev
              · rename_i hk
                subst hk
                simp only [cast_refl] at hev
                obtain ⟨hsize, hev⟩ := dec_of hev
                rw [hbe] at hsize
                have hv1 : visK k' h (.full id) = some l := by simp [visK, vis, hid, cast_refl]
                have hxl : LRel m (.full id) (a.eval x) := hx
                have hrd := (visK_run (P := P) hi hxl hv1).2.2
                have hsf : sliceForm h (.full id) = some (id, 0, 0, l.length, none) := by simp [sliceForm, hid]
                exact append_slice hi ho hc hl ht hok' hin hiz hzz hzs hbpos hy hvis hsize hid (sliceForm_rel hi hsf hx) (fun A C hA => (hrd A _ C hA).2) hev
              · cases hev
            · cases hev
          · rename_i id lo len cap
            split at hev
            · rename_i k' n l hid
              split at hev
              · rename_i hk
                subst hk
                simp only [cast_refl] at hev
                obtain ⟨hsize, hev⟩ := dec_of hev
                rw [hbe] at hsize
                have hv1 : visK k' h (.slice id 0 lo len cap) = some ((l.drop lo).take len) := by simp [visK, vis, hid, cast_refl, drop0]
                have hxl : LRel m (.slice id 0 lo len cap) (a.eval x) := hx
                obtain ⟨hlenR, _, hrd⟩ := visK_run (P := P) hi hxl hv1
                have hsl : SlRel m id 0 lo len cap (a.eval x) := hx
                have hlen : ((l.drop lo).take len).length = len := by
                  obtain ⟨g, A, C, hg, hxv, hle, hcap, hln, _⟩ := hsl
                  exact ((hrd A _ C hxv).1).symm
                have hsl' : SlRel m id 0 lo ((l.drop lo).take len).length cap (a.eval x) := by rw [hlen]; exact hsl
                exact append_slice hi ho hc hl ht hok' hin hiz hzz hzs hbpos hy hvis (by rw [hlen]; exact hsize) hid hsl' (fun A C hA => (hrd A _ C hA).2) hev
              · cases hev
            · cases hev
          · cases hev
        · cases hev
    · cases hev
  · cases hev

theorem hset_self : ∀ {h : Heap} {id : Nat} {ob : Ob}, hget h id = some ob → hset h id (some ob) = h
  | [], _, _, h0 => by simp [hget] at h0
  | x :: r, 0, _, h0 => by simp only [hget] at h0; simp [hset, h0]
  | x :: r, id + 1, _, h0 => by simp only [hget] at h0; simp [hset, hset_self h0]

theorem eff_copy (hi : Inv G m h w) (he : ERel m env a) {c : Call} (ho : o.op = .call c) (hc : c.callee = .builtin .copy) (hev : evEff P o env h K = some r) : EffOK P G m w a o K r := by
  simp only [evEff, ho, hc] at hev
  have hds : isDs o.op = true := by rw [ho]; simp [isDs, hc]
  have hnods : ∀ {q : Prop}, isDs o.op = false → q := fun h0 => by rw [hds] at h0; cases h0
  split at hev
  · rename_i vd vb e hargs ht
    obtain ⟨x, y, hl, hx, hy⟩ := (argVals_rel he hargs).two
    split at hev
    · rename_i id off lo len cap hsf
      split at hev
      · rename_i es hid
        split at hev
        · rename_i pre k n l post htk hdr
          split at hev
          · rename_i hsz
            split at hev
            · rename_i l2 hvis
              obtain ⟨g, A, C, hg, hxv, hle, hcap, hln, hbb⟩ := sliceForm_rel hi hsf hx
              obtain ⟨hlenR, hfst, _⟩ := visK_run (P := P) hi hy hvis
              obtain ⟨consts, hrun⟩ := run_builtin (P := P) (a := a) c hc ho
              obtain ⟨t0, ht0, htu⟩ := arg0_of ht
              obtain ⟨i, hin, hiz⟩ := szOf_info hsz k.w_pos
              obtain ⟨hsg, cs, hoc, hpl⟩ := hi.obs id _ g hid hg
              obtain ⟨hlen, hew⟩ := hsg off k n l post hdr
              obtain ⟨t1, t2⟩ := takeW_cells htk hoc
              obtain ⟨_, c1, c2, hcs, ⟨hl1, rfl⟩, hpost⟩ := dropW_cells hdr hoc
              have hmin : Nat.min l2.length len ≤ l2.length := Nat.min_le_left _ _
              have hfc := hfst w (Ext.refl w) (Nat.min l2.length len) hmin
              have htake : l2.take (Nat.min l2.length len) = l2.take len := by
                apply List.ext_getElem?
                intro j
                rw [List.getElem?_take, List.getElem?_take]
                have : Nat.min l2.length len = min l2.length len := rfl
                by_cases h1 : j < len
                · by_cases h2 : j < l2.length
                  · rw [if_pos (by omega), if_pos h1]
                  · rw [if_neg (by omega), if_pos h1, List.getElem?_eq_none (by omega)]
                · rw [if_neg (by omega), if_neg h1]
              rw [htake] at hfc
              have htl : (l2.take len).length = min l2.length len := by rw [List.length_take, Nat.min_comm]
              have hlo : lo + len ≤ l.length := by
                rw [hlen]
                cases cap with
                | none => simpa using hln
                | some cc => have := hcap cc rfl; simp only [Option.getD_some] at hln; omega
              have hes : es = pre ++ .seq k n l :: post := take_drop htk hdr
              have hnl : (l.take lo ++ (l2.take len ++ l.drop (lo + min l2.length len))).length = l.length := by
                simp only [List.length_append, List.length_take, List.length_drop]; omega
              have hmi : min (l2.length : Int) (len : Int) = ((min l2.length len : Nat) : Int) := by omega
              by_cases hz : min l2.length len = 0
              · have hr : (execOp a.eval o).run P w = .ok (.value (.int .i64 ((min l2.length len : Nat) : Int))) w := by
                  have e0 : l2.take len = [] := List.eq_nil_of_length_eq_zero (by rw [htl]; exact hz)
                  rw [e0] at hfc
                  rw [hrun, args2 hl, hxv]
                  cases A with
                  | none => simp [builtin, Builtin.copy_, ht0, run_under htu, run_size hin, hiz, hlenR, hfc, goInt]
                  | some p => simp [builtin, Builtin.copy_, ht0, run_under htu, run_size hin, hiz, hlenR, hfc, goInt, cvs, storeCells]
                have hsame : l.take lo ++ (l2.take len ++ l.drop (lo + min l2.length len)) = l := by
                  have e0 : l2.take len = [] := List.eq_nil_of_length_eq_zero (by rw [htl]; exact hz)
                  rw [e0, hz]
                  simp
                have hput : Inv G m (hset h id (some ⟨false, pre ++ .seq k n (l.take lo ++ (l2.take len ++ l.drop (lo + min l2.length len))) :: post⟩)) w := by
                  rw [hsame, ← hes]
                  have : hset h id (some ⟨false, es⟩) = h := hset_self hid
                  rw [this]; exact hi
                exact ⟨_, _, hev, _, _, w, m, hr, .inl rfl, hput, Pre.refl m, .inr rfl, hnods⟩
              · rcases hbb with hbb | ⟨b, hbb, hA, hsz2⟩
                · omega
                · have hcl : cs.length = off + (l.length * k.w + c2.length) := by
                    have := congrArg List.length hcs
                    simp only [List.length_drop, List.length_append, cvs_length] at this
                    omega
                  have hns : (cvs k (l2.take len)).length = min l2.length len * k.w := by rw [cvs_length, htl]
                  have hfit : (lo + min l2.length len) * k.w ≤ l.length * k.w := Nat.mul_le_mul_right _ (by omega)
                  rw [Nat.add_mul] at hfit
                  have hle2 : off + lo * g.ew off + (cvs k (l2.take len)).length ≤ cs.length := by rw [hns, ← hew]; omega
                  obtain ⟨w', r1, r2, r3⟩ := store_cells (P := P) hi hid hg hbb hoc hpl hle2 (cvs_leaf k _)
                  have hr : (execOp a.eval o).run P w = .ok (.value (.int .i64 ((min l2.length len : Nat) : Int))) w' := by
                    rw [hrun, args2 hl, hxv, hA]
                    simp [builtin, Builtin.copy_, ht0, run_under htu, run_size hin, hiz, hlenR, hfc, goInt, r1]
                  have hcells : cs.take off ++ (cvs k (l.take lo ++ (l2.take len ++ l.drop (lo + min l2.length len))) ++ c2) = splice cs (off + lo * g.ew off) (cvs k (l2.take len)) := by
                    have e1 : cvs k (l.take lo ++ (l2.take len ++ l.drop (lo + min l2.length len))) = splice (cvs k l) (lo * k.w) (cvs k (l2.take len)) := by
                      rw [cvs_append, cvs_append, cvs_take, cvs_drop]
                      simp only [splice]
                      rw [hns, Nat.add_mul]
                    rw [e1, ← hew]
                    have h0 : (cs.take off).length = off := by rw [List.length_take]; omega
                    apply List.ext_getElem?
                    intro j
                    have hcs' : cs = cs.take off ++ (cvs k l ++ c2) := by rw [← hcs, List.take_append_drop]
                    have hs1 : lo * k.w + (cvs k (l2.take len)).length ≤ (cvs k l).length := by rw [hns, cvs_length]; omega
                    rw [splice_get (by rw [← hew] at hle2; exact hle2)]
                    by_cases d1 : j < off
                    · rw [List.getElem?_append_left (by omega), if_pos (by omega), List.getElem?_take, if_pos d1]
                    · have hcj : cs[j]? = (cvs k l ++ c2)[j - off]? := by
                        rw [← hcs, List.getElem?_drop]; congr 1; omega
                      rw [List.getElem?_append_right (by omega), h0, hcj]
                      by_cases d2 : j - off < (cvs k l).length
                      · rw [List.getElem?_append_left (by rw [splice_length hs1]; exact d2), splice_get hs1, List.getElem?_append_left d2]
                        by_cases d3 : j - off < lo * k.w
                        · rw [if_pos d3, if_pos (show j < off + lo * k.w by omega)]
                        · rw [if_neg d3, if_neg (show ¬ j < off + lo * k.w by omega)]
                          by_cases d4 : j - off < lo * k.w + (cvs k (l2.take len)).length
                          · rw [if_pos d4, if_pos (show j < off + lo * k.w + (cvs k (l2.take len)).length by omega)]
                            congr 1; omega
                          · rw [if_neg d4, if_neg (show ¬ j < off + lo * k.w + (cvs k (l2.take len)).length by omega)]
                      · rw [List.getElem?_append_right (by rw [splice_length hs1]; omega), List.getElem?_append_right (by omega), splice_length hs1, if_neg (by omega), if_neg (by omega)]
                  refine ⟨_, _, hev, _, _, w', m, hr, .inl rfl, hi.put hid hg hbb r2 ⟨seqG_xsh (es := es) (by rw [hes]; simp only [List.map_append, List.map_cons, xsh, hnl]) hsg, _, ?_, r3⟩, Pre.refl m, .inr rfl, hnods⟩
                  rw [← hcells]
                  exact ocells_append.2 ⟨_, _, rfl, t2, _, _, rfl, ⟨by rw [hnl]; exact hl1, rfl⟩, hpost⟩
            · cases hev
          · cases hev
        · cases hev
      · cases hev
    · cases hev
  · cases hev

theorem evEff_sound (hi : Inv G m h w) (he : ERel m env a) (hev : evEff P o env h K = some r) : EffOK P G m w a o K r := by
  cases ho : o.op with
  | alloc t => exact eff_alloc hi ho hev
  | box t x => exact eff_box hi he ho hev
  | store t x y => exact eff_store hi he ho hev
  | convert src dst x => exact eff_convert hi he ho hev
  | makeSlice t l c => exact eff_makeSlice hi he ho hev
  | buildSlice t n ps => exact eff_buildSlice hi he ho hev
  | call c =>
    cases hc : c.callee with
    | builtin b =>
      cases b with
      | append => exact eff_append hi he ho hc hev
      | copy => exact eff_copy hi he ho hc hev
      | _ => simp only [evEff, ho, hc] at hev; cases hev
    | _ => simp only [evEff, ho, hc] at hev; cases hev
  | _ => simp only [evEff, ho] at hev; cases hev

end
end Go.Proofs.Ytillbabmlfjegaa.Ev
end

section
/- The evaluator is sound, eleventh part: objects laid anew. -/
namespace Go.Proofs.Ytillbabmlfjegaa.Ev
open Go
set_option linter.unusedVariables false

variable {P : Program}

section
variable {G : Ctx} {m : GM} {h : Heap} {w w' : World}

/-! ### Renaming -/

def RenOK (f : Nat → Option Nat) (m m' : GM) : Prop := ∀ (id j : Nat), f id = some j → ∀ g, m[id]? = some g → m'[j]? = some g

theorem LRel.ren {f : Nat → Option Nat} {m m' : GM} (hf : RenOK f m m') {x : LV} {v : Value} (h : LRel m x v) : LRel m' (renL f x) v := by
  have hl := h.leaf
  cases x <;> try exact h
  · rename_i id off
    obtain ⟨g, b, hg, hb, hv⟩ := h
    simp only [renL]
    split
    · rename_i j hj; exact ⟨g, b, hf id j hj g hg, hb, hv⟩
    · exact hl
  · rename_i id off i o2
    obtain ⟨g, b, hg, hb, hv⟩ := h
    simp only [renL]
    split
    · rename_i j hj; exact ⟨g, b, hf id j hj g hg, hb, hv⟩
    · exact hl
  · rename_i id
    obtain ⟨g, hg, g', a, c, hg', hr⟩ := h
    simp only [renL]
    split
    · rename_i j hj; exact ⟨g, hf id j hj g hg, g', a, c, hf id j hj g' hg', hr⟩
    · exact hl
  · rename_i id off lo len cap
    obtain ⟨g', a, c, hg', hr⟩ := h
    simp only [renL]
    split
    · rename_i j hj; exact ⟨g', a, c, hf id j hj g' hg', hr⟩
    · exact hl

theorem xsh_ren (f : Nat → Option Nat) (x : LV) : xsh (renL f x) = xsh x := by
  cases x <;> simp only [renL] <;> try rfl
  all_goals (split <;> rfl)

theorem ECells.ren {f : Nat → Option Nat} {m m' : GM} (hf : RenOK f m m') {x : LV} {cs : List Value} (h : ECells m x cs) : ECells m' (renL f x) cs := by
  cases x
  case seq => exact h
  all_goals
    obtain ⟨v, hv, hl⟩ := h
    have hl' := LRel.ren hf hl
    simp only [renL] at hl' ⊢
    first
      | exact ⟨v, hv, hl'⟩
      | (split at hl' <;> exact ⟨v, hv, hl'⟩)

theorem OCells.ren {f : Nat → Option Nat} {m m' : GM} (hf : RenOK f m m') {es : List LV} : ∀ {cs : List Value}, OCells m es cs → OCells m' (renLs f es) cs := by
  induction es with
  | nil => intro cs h; exact h
  | cons x r ih => rintro cs ⟨a, b, rfl, hx, hr⟩; exact ⟨a, b, rfl, hx.ren hf, ih hr⟩

theorem xsh_rens (f : Nat → Option Nat) (es : List LV) : (renLs f es).map xsh = es.map xsh := by
  induction es with
  | nil => rfl
  | cons x r ih => simp only [renLs, List.map_cons, xsh_ren, ih]

theorem TVRel.ren {f : Nat → Option Nat} {m m' : GM} (hf : RenOK f m m') {x : TV} {v : Value} (h : TVRel m x v) : TVRel m' (renV f x) v := by
  cases x with
  | lf x => exact LRel.ren hf h
  | agg es => obtain ⟨cs, rfl, ho⟩ := h; exact ⟨cs, rfl, ho.ren hf⟩

theorem TVs.ren {f : Nat → Option Nat} {m m' : GM} (hf : RenOK f m m') {l : List TV} : ∀ {vs : List Value}, TVs m l vs → TVs m' (renVs f l) vs := by
  induction l with
  | nil => intro vs h; cases vs <;> exact h
  | cons x r ih =>
    intro vs h
    cases vs with
    | nil => exact h.elim
    | cons v s => exact ⟨h.1.ren hf, ih h.2⟩

/-! ### Nil slices -/

theorem Inv.swap (hi : Inv G m h w) {id : Nat} {ob : Ob} {es' : List LV} (hid : hget h id = some ob) (hx : es'.map xsh = ob.es.map xsh) (ho : ∀ cs, OCells m ob.es cs → OCells m es' cs) :
    Inv G m (hset h id (some ⟨ob.ro, es'⟩)) w := by
  refine ⟨by rw [hset_length]; exact hi.len, fun j o gj hj hgj => ?_, fun j o gj c hj hgj hc => ?_, fun i j oi oj gi gj b c hne h1 h2 h3 h4 h5 h6 h7 h8 => ?_, hi.str, hi.size, hi.frame⟩
  · rcases hget_hset hj with ⟨rfl, h0⟩ | ⟨hne, hj⟩
    · cases h0
      obtain ⟨hs, cs, hoc, hp⟩ := hi.obs j ob gj hid hgj
      exact ⟨seqG_xsh hx hs, cs, ho cs hoc, hp⟩
    · exact hi.obs j o gj hj hgj
  · rcases hget_hset hj with ⟨rfl, h0⟩ | ⟨hne, hj⟩
    · cases h0; exact hi.own j ob gj c hid hgj hc
    · exact hi.own j o gj c hj hgj hc
  · rcases hget_hset h1 with ⟨e1, h0⟩ | ⟨n1, q1⟩
    · cases h0
      rcases hget_hset h2 with ⟨e2, h0'⟩ | ⟨n2, q2⟩
      · exact absurd (e1.trans e2.symm) hne
      · exact hi.dist i j ob oj gi gj b c hne (by rw [e1]; exact hid) q2 h3 h4 h5 h6 h7 h8
    · rcases hget_hset h2 with ⟨e2, h0⟩ | ⟨n2, q2⟩
      · cases h0
        exact hi.dist i j oi ob gi gj b c hne q1 (by rw [e2]; exact hid) h3 h4 h5 h6 h7 h8
      · exact hi.dist i j oi oj gi gj b c hne q1 q2 h3 h4 h5 h6 h7 h8

theorem nils_full {k : EK} {v : Value} {q : Option EK} (hi : Inv G m h w) (hv : LRel m (.nils q) v) : LRel (m ++ [ghOf none 0 [.seq k 0 []]]) (.full h.length) v := by
  have : v = .slice none 0 0 := hv
  subst this
  exact full_nil (m := m ++ [ghOf none 0 [.seq k 0 []]]) (h := h) (k := k) (A := none) (by rw [← hi.len]; exact gm_app_new) rfl

theorem matL_rel : ∀ (l : List LV) {m : GM} {h : Heap} (_ : Inv G m h w), ∃ t u, (matL l h).2 = h ++ u ∧ Inv G (m ++ t) (matL l h).2 w ∧ (matL l h).1.map xsh = l.map xsh ∧ ∀ cs, OCells m l cs → OCells (m ++ t) (matL l h).1 cs
  | [], m, h, hi => ⟨[], [], by simp [matL], by simpa [matL] using hi, rfl, fun cs h => by simpa [matL] using h⟩
  | .nils (some k) :: r, m, h, hi => by
    obtain ⟨t, u, h1, h2, h3, h4⟩ := matL_rel r (add_nil hi k)
    simp only [matL]
    refine ⟨[ghOf none 0 [.seq k 0 []]] ++ t, [some ⟨false, [.seq k 0 []]⟩] ++ u, by rw [h1]; simp, by rw [← List.append_assoc]; exact h2, by simp only [List.map_cons, h3]; rfl, ?_⟩
    rintro cs ⟨a, b, rfl, ⟨v, rfl, hv⟩, hr⟩
    rw [← List.append_assoc]
    exact ⟨[v], b, rfl, ⟨v, rfl, (nils_full (k := k) hi hv).mono (pre_append _ _)⟩, h4 b (hr.mono (pre_append _ _))⟩
  | .nils none :: r, m, h, hi => by
    obtain ⟨t, u, h1, h2, h3, h4⟩ := matL_rel r hi
    exact ⟨t, u, h1, h2, by simp only [matL, List.map_cons, h3], by rintro cs ⟨a, b, rfl, hx, hr⟩; exact ⟨a, b, rfl, hx.mono (pre_append _ _), h4 b hr⟩⟩
  | .top :: r, m, h, hi => by
    obtain ⟨t, u, h1, h2, h3, h4⟩ := matL_rel r hi
    exact ⟨t, u, h1, h2, by simp only [matL, List.map_cons, h3], by rintro cs ⟨a, b, rfl, hx, hr⟩; exact ⟨a, b, rfl, hx.mono (pre_append _ _), h4 b hr⟩⟩
  | .int _ _ :: r, m, h, hi => by
    obtain ⟨t, u, h1, h2, h3, h4⟩ := matL_rel r hi
    exact ⟨t, u, h1, h2, by simp only [matL, List.map_cons, h3], by rintro cs ⟨a, b, rfl, hx, hr⟩; exact ⟨a, b, rfl, hx.mono (pre_append _ _), h4 b hr⟩⟩
  | .bool _ :: r, m, h, hi => by
    obtain ⟨t, u, h1, h2, h3, h4⟩ := matL_rel r hi
    exact ⟨t, u, h1, h2, by simp only [matL, List.map_cons, h3], by rintro cs ⟨a, b, rfl, hx, hr⟩; exact ⟨a, b, rfl, hx.mono (pre_append _ _), h4 b hr⟩⟩
  | .str _ :: r, m, h, hi => by
    obtain ⟨t, u, h1, h2, h3, h4⟩ := matL_rel r hi
    exact ⟨t, u, h1, h2, by simp only [matL, List.map_cons, h3], by rintro cs ⟨a, b, rfl, hx, hr⟩; exact ⟨a, b, rfl, hx.mono (pre_append _ _), h4 b hr⟩⟩
  | .nilp :: r, m, h, hi => by
    obtain ⟨t, u, h1, h2, h3, h4⟩ := matL_rel r hi
    exact ⟨t, u, h1, h2, by simp only [matL, List.map_cons, h3], by rintro cs ⟨a, b, rfl, hx, hr⟩; exact ⟨a, b, rfl, hx.mono (pre_append _ _), h4 b hr⟩⟩
  | .ptr _ _ :: r, m, h, hi => by
    obtain ⟨t, u, h1, h2, h3, h4⟩ := matL_rel r hi
    exact ⟨t, u, h1, h2, by simp only [matL, List.map_cons, h3], by rintro cs ⟨a, b, rfl, hx, hr⟩; exact ⟨a, b, rfl, hx.mono (pre_append _ _), h4 b hr⟩⟩
  | .pix _ _ _ _ :: r, m, h, hi => by
    obtain ⟨t, u, h1, h2, h3, h4⟩ := matL_rel r hi
    exact ⟨t, u, h1, h2, by simp only [matL, List.map_cons, h3], by rintro cs ⟨a, b, rfl, hx, hr⟩; exact ⟨a, b, rfl, hx.mono (pre_append _ _), h4 b hr⟩⟩
  | .full _ :: r, m, h, hi => by
    obtain ⟨t, u, h1, h2, h3, h4⟩ := matL_rel r hi
    exact ⟨t, u, h1, h2, by simp only [matL, List.map_cons, h3], by rintro cs ⟨a, b, rfl, hx, hr⟩; exact ⟨a, b, rfl, hx.mono (pre_append _ _), h4 b hr⟩⟩
  | .slice _ _ _ _ _ :: r, m, h, hi => by
    obtain ⟨t, u, h1, h2, h3, h4⟩ := matL_rel r hi
    exact ⟨t, u, h1, h2, by simp only [matL, List.map_cons, h3], by rintro cs ⟨a, b, rfl, hx, hr⟩; exact ⟨a, b, rfl, hx.mono (pre_append _ _), h4 b hr⟩⟩
  | .fn _ :: r, m, h, hi => by
    obtain ⟨t, u, h1, h2, h3, h4⟩ := matL_rel r hi
    exact ⟨t, u, h1, h2, by simp only [matL, List.map_cons, h3], by rintro cs ⟨a, b, rfl, hx, hr⟩; exact ⟨a, b, rfl, hx.mono (pre_append _ _), h4 b hr⟩⟩
  | .seq _ _ _ :: r, m, h, hi => by
    obtain ⟨t, u, h1, h2, h3, h4⟩ := matL_rel r hi
    exact ⟨t, u, h1, h2, by simp only [matL, List.map_cons, h3], by rintro cs ⟨a, b, rfl, hx, hr⟩; exact ⟨a, b, rfl, hx.mono (pre_append _ _), h4 b hr⟩⟩

theorem matV_rel (v : TV) (hi : Inv G m h w) : ∃ t u, (matV v h).2 = h ++ u ∧ Inv G (m ++ t) (matV v h).2 w ∧ ∀ x, TVRel m v x → TVRel (m ++ t) (matV v h).1 x := by
  unfold matV
  split
  · rename_i k
    exact ⟨[ghOf none 0 [.seq k 0 []]], _, rfl, add_nil hi k, fun x hx => nils_full (k := k) (q := some k) hi hx⟩
  · exact ⟨[], [], by simp, by simpa using hi, fun x hx => by simpa using hx⟩
  · rename_i l
    obtain ⟨t, u, h1, h2, h3, h4⟩ := matL_rel l hi
    exact ⟨t, u, h1, h2, by rintro x ⟨cs, rfl, ho⟩; exact ⟨cs, rfl, h4 _ ho⟩⟩

theorem matVs_rel : ∀ (l : List TV) {m : GM} {h : Heap} (_ : Inv G m h w), ∃ t u, (matVs l h).2 = h ++ u ∧ Inv G (m ++ t) (matVs l h).2 w ∧ ∀ xs, TVs m l xs → TVs (m ++ t) (matVs l h).1 xs
  | [], m, h, hi => ⟨[], [], by simp [matVs], by simpa [matVs] using hi, fun xs hx => by simpa [matVs] using hx⟩
  | v :: r, m, h, hi => by
    obtain ⟨t, u, h1, h2, h3⟩ := matV_rel v hi
    obtain ⟨t', u', h1', h2', h3'⟩ := matVs_rel r h2
    simp only [matVs]
    refine ⟨t ++ t', u ++ u', by rw [h1', h1, List.append_assoc], by rw [← List.append_assoc]; exact h2', fun xs hx => ?_⟩
    cases xs with
    | nil => exact hx.elim
    | cons x xs =>
      rw [← List.append_assoc]
      exact ⟨(h3 x hx.1).mono (pre_append _ _), h3' xs (hx.2.mono (pre_append _ _))⟩

theorem matH_rel : ∀ (n i : Nat) {m : GM} {h : Heap} (_ : Inv G m h w), ∃ t, Inv G (m ++ t) (matH n i h) w ∧ h.length ≤ (matH n i h).length
  | 0, i, m, h, hi => ⟨[], by simpa [matH] using hi, Nat.le_refl _⟩
  | n + 1, i, m, h, hi => by
    simp only [matH]
    split
    · rename_i ro es hob
      generalize hoe : (⟨ro, es⟩ : Ob) = ob at hob
      obtain ⟨rfl, rfl⟩ : ro = ob.ro ∧ es = ob.es := by subst hoe; exact ⟨rfl, rfl⟩
      obtain ⟨t, u, h1, h2, h3, h4⟩ := matL_rel ob.es hi
      have hob' : hget (matL ob.es h).2 i = some ob := by rw [h1, hget_append_left (hget_lt hob)]; exact hob
      have hsw : Inv G (m ++ t) (hset (matL ob.es h).2 i (some ⟨ob.ro, (matL ob.es h).1⟩)) w := by
        refine ⟨by rw [hset_length]; exact h2.len, fun j o gj hj hgj => ?_, fun j o gj c hj hgj hc => ?_, fun i' j oi oj gi gj b c hne q1 q2 q3 q4 q5 q6 q7 q8 => ?_, h2.str, h2.size, h2.frame⟩
        · rcases hget_hset hj with ⟨rfl, h0⟩ | ⟨hne, hj⟩
          · cases h0
            have hgm : m[j]? = some gj := by
              have := hget_lt hob
              rw [← hi.len] at this
              rwa [List.getElem?_append_left this] at hgj
            obtain ⟨hs, cs, hoc, hp⟩ := hi.obs j ob gj hob hgm
            exact ⟨seqG_xsh h3 hs, cs, h4 cs hoc, hp⟩
          · exact h2.obs j o gj hj hgj
        · rcases hget_hset hj with ⟨rfl, h0⟩ | ⟨hne, hj⟩
          · cases h0; exact h2.own j ob gj c hob' hgj hc
          · exact h2.own j o gj c hj hgj hc
        · rcases hget_hset q1 with ⟨e1, h0⟩ | ⟨n1, p1⟩
          · cases h0
            rcases hget_hset q2 with ⟨e2, _⟩ | ⟨n2, p2⟩
            · exact absurd (e1.trans e2.symm) hne
            · exact h2.dist i' j ob oj gi gj b c hne (by rw [e1]; exact hob') p2 q3 q4 q5 q6 q7 q8
          · rcases hget_hset q2 with ⟨e2, h0⟩ | ⟨n2, p2⟩
            · cases h0
              exact h2.dist i' j oi ob gi gj b c hne p1 (by rw [e2]; exact hob') q3 q4 q5 q6 q7 q8
            · exact h2.dist i' j oi oj gi gj b c hne p1 p2 q3 q4 q5 q6 q7 q8
      obtain ⟨t', h5, h6⟩ := matH_rel n (i + 1) hsw
      refine ⟨t ++ t', by rw [← List.append_assoc]; exact h5, Nat.le_trans ?_ h6⟩
      rw [hset_length, h1]; simp
    · exact matH_rel n (i + 1) hi

/-! ### A part of the heap -/

theorem memN_iff (a : Nat) (l : List Nat) : memN a l = true ↔ a ∈ l := by
  induction l with
  | nil => simp [memN]
  | cons b r ih => simp only [memN]; split <;> simp_all

theorem nodupB_get : ∀ {l : List Nat}, nodupB l = true → ∀ {i j a : Nat}, l[i]? = some a → l[j]? = some a → i = j
  | [], _, i, j, a, h1, _ => by simp at h1
  | b :: r, hn, i, j, a, h1, h2 => by
    simp only [nodupB, Bool.and_eq_true, Bool.not_eq_true'] at hn
    have hb : ∀ k : Nat, r[k]? = some b → False := fun k hk => by
      have : b ∈ r := List.mem_of_getElem? hk
      rw [← memN_iff] at this
      rw [this] at hn
      exact absurd hn.1 (by simp)
    cases i with
    | zero =>
      cases j with
      | zero => rfl
      | succ j => simp at h1 h2; subst h1; exact (hb j h2).elim
    | succ i =>
      cases j with
      | zero => simp at h1 h2; subst h2; exact (hb i h1).elim
      | succ j => simp at h1 h2; exact congrArg _ (nodupB_get hn.2 h1 h2)

theorem idx_get : ∀ {l : List Nat} {s x j : Nat}, idx l s x = some j → s ≤ j ∧ l[j - s]? = some x
  | [], s, x, j, h => by simp [idx] at h
  | a :: r, s, x, j, h => by
    simp only [idx] at h
    split at h
    · rename_i e
      simp only [Option.some.injEq] at h
      subst h e
      simp
    · obtain ⟨h1, h2⟩ := idx_get h
      refine ⟨by omega, ?_⟩
      rw [show j - s = (j - (s + 1)) + 1 by omega]
      simpa using h2

theorem pickH_get (f : Nat → Option Nat) : ∀ {sel : List Nat} {j : Nat} {ob : Ob}, hget (pickH h f sel) j = some ob → ∃ i o, sel[j]? = some i ∧ hget h i = some o ∧ ob = ⟨o.ro, renLs f o.es⟩
  | [], j, ob, hg => by simp [pickH, hget] at hg
  | i :: r, 0, ob, hg => by
    simp only [pickH, hget] at hg
    cases ho : hget h i with
    | none => rw [ho] at hg; simp [renO] at hg
    | some o => rw [ho] at hg; simp only [renO, Option.some.injEq] at hg; exact ⟨i, o, rfl, ho, hg.symm⟩
  | i :: r, j + 1, ob, hg => by
    simp only [pickH, hget] at hg
    obtain ⟨i', o, h1, h2, h3⟩ := pickH_get f hg
    exact ⟨i', o, by simpa using h1, h2, h3⟩

theorem pickH_length (f : Nat → Option Nat) (sel : List Nat) : (pickH h f sel).length = sel.length := by
  induction sel with
  | nil => rfl
  | cons i r ih => simp [pickH, ih]

def gh0 : Gh := ⟨none, 0, fun _ => 0, fun _ => 0⟩

def pickM (m : GM) (sel : List Nat) : GM := sel.map fun i => m.getD i gh0

theorem pickM_get {sel : List Nat} {j i : Nat} {g : Gh} (hs : sel[j]? = some i) (hg : m[i]? = some g) : (pickM m sel)[j]? = some g := by
  simp only [pickM, List.getElem?_map, hs, Option.map_some, List.getD_eq_getElem?_getD, hg, Option.getD_some]

theorem pickM_back {sel : List Nat} {j i : Nat} {g : Gh} (hs : sel[j]? = some i) (hi : i < m.length) (hg : (pickM m sel)[j]? = some g) : m[i]? = some g := by
  simp only [pickM, List.getElem?_map, hs, Option.map_some, Option.some.injEq, List.getD_eq_getElem?_getD] at hg
  rw [List.getElem?_eq_getElem hi] at hg ⊢
  simpa using hg

theorem pick_ren (sel : List Nat) : RenOK (idx sel 0) m (pickM m sel) := by
  intro id j hj g hg
  obtain ⟨_, h2⟩ := idx_get hj
  exact pickM_get (by simpa using h2) hg

/-- The invariant of a part of the heap, under the same care. -/
theorem Inv.pick (hi : Inv G m h w) {sel : List Nat} (hn : nodupB sel = true) : Inv G (pickM m sel) (pickH h (idx sel 0) sel) w := by
  refine ⟨by simp [pickM, pickH_length], fun j ob gj hj hgj => ?_, fun j ob gj c hj hgj hc => ?_, fun j1 j2 o1 o2 g1 g2 b c hne q1 q2 q3 q4 q5 q6 q7 q8 => ?_, hi.str, hi.size, hi.frame⟩
  · obtain ⟨i, o, h1, h2, rfl⟩ := pickH_get _ hj
    have hg := pickM_back h1 (by rw [hi.len]; exact hget_lt h2) hgj
    obtain ⟨hs, cs, hoc, hp⟩ := hi.obs i o gj h2 hg
    exact ⟨seqG_xsh (xsh_rens _ _) hs, cs, hoc.ren (pick_ren sel), hp⟩
  · obtain ⟨i, o, h1, h2, rfl⟩ := pickH_get _ hj
    exact hi.own i o gj c h2 (pickM_back h1 (by rw [hi.len]; exact hget_lt h2) hgj) hc
  · obtain ⟨i1, p1, a1, a2, rfl⟩ := pickH_get _ q1
    obtain ⟨i2, p2, b1, b2, rfl⟩ := pickH_get _ q2
    refine hi.dist i1 i2 p1 p2 g1 g2 b c (fun e => ?_) a2 b2 q3 q4 (pickM_back a1 (by rw [hi.len]; exact hget_lt a2) q5) (pickM_back b1 (by rw [hi.len]; exact hget_lt b2) q6) q7 q8
    subst e
    exact hne (nodupB_get hn a1 b1)

theorem seqN_get : ∀ (n s j : Nat), j < n → (seqN n s)[j]? = some (s + j)
  | 0, _, _, h => by omega
  | n + 1, s, 0, _ => by simp [seqN]
  | n + 1, s, j + 1, h => by
    simp only [seqN, List.getElem?_cons_succ]
    rw [seqN_get n (s + 1) j (by omega)]
    congr 1; omega

theorem seqN_length (n s : Nat) : (seqN n s).length = n := by
  induction n generalizing s with
  | zero => rfl
  | succ n ih => simp [seqN, ih]

/-- Values and the heap laid anew. -/
theorem normVs_sound (hi : Inv G m h w) {n0 : Nat} (hn0 : n0 ≤ m.length) {vs : List TV} {xs : List Value} (hx : TVs m vs xs) {K : List TV → Heap → Option Res} {r : Res} (hev : normVs n0 vs h K = some r) :
    ∃ vs' h' m', K vs' h' = some r ∧ Inv G m' h' w ∧ TVs m' vs' xs ∧ n0 ≤ m'.length ∧ ∀ i, i < n0 → m'[i]? = m[i]? := by
  unfold normVs at hev
  simp only at hev
  split at hev
  · cases hev
  · rename_i hnd
    obtain ⟨t, u, h1, h2, h3⟩ := matVs_rel vs hi
    obtain ⟨t', h4, h5⟩ := matH_rel (matVs vs h).2.length 0 h2
    have hn : nodupB (seqN n0 0 ++ dropLt n0 (reach (matH (matVs vs h).2.length 0 (matVs vs h).2) fuelR (seqN n0 0 ++ idsOfVs (matVs vs h).1) [])) = true := by
      cases hq : nodupB (seqN n0 0 ++ dropLt n0 (reach (matH (matVs vs h).2.length 0 (matVs vs h).2) fuelR (seqN n0 0 ++ idsOfVs (matVs vs h).1) [])) with
      | true => rfl
      | false => exact absurd (by rw [hq]; rfl) hnd
    refine ⟨_, _, _, hev, h4.pick hn, ((h3 xs hx).mono (pre_append _ _)).ren (pick_ren _), ?_, fun i hlt => ?_⟩
    · simp [pickM, seqN_length]
    · have hg : (m ++ t ++ t')[i]? = m[i]? := by
        rw [List.append_assoc, List.getElem?_append_left (by omega)]
      have hs : (seqN n0 0 ++ dropLt n0 (reach (matH (matVs vs h).2.length 0 (matVs vs h).2) fuelR (seqN n0 0 ++ idsOfVs (matVs vs h).1) []))[i]? = some i := by
        rw [List.getElem?_append_left (by rw [seqN_length]; exact hlt), seqN_get n0 0 i hlt, Nat.zero_add]
      have hm : m[i]? = some (m[i]'(by omega)) := List.getElem?_eq_getElem _
      rw [hm]
      exact pickM_get hs (by rw [hg, hm])

end
end Go.Proofs.Ytillbabmlfjegaa.Ev
end

section
/- The evaluator is sound, twelfth part: calls. -/
namespace Go.Proofs.Ytillbabmlfjegaa.Ev
open Go
set_option linter.unusedVariables false

variable {P : Program}

def ResRel (m : GM) : List TV → Value → Prop
  | [x], v => TVRel m x v
  | l, v => ∃ vs, v = .tuple vs ∧ TVs m l vs.toList

/-- What a call of function f comes to, from such arguments and such a heap. -/
def Contract (P : Program) (f : FuncId) (vs : List TV) (h : Heap) (K : List TV → Heap → Option Res) (r : Res) : Prop :=
  ∀ (G : Ctx) (m : GM) (w : World) (cvs : List Value), G.w0 = w → Inv G m h w → TVs m vs cvs →
    Calls P f cvs.toArray w fun e w' => ∃ rs h', K rs h' = some r ∧ ∃ v t, e = .returned v ∧ ResRel (m ++ t) rs v ∧ Inv G (m ++ t) h' w'

structure SoundFn (P : Program) (f : FuncId) (S : Summ) : Prop where
  enter : ∀ args w, (callFunc f args).run P w = .ok (.enter f args) w
  ok : ∀ vs h K r, S vs h K = some r → Contract P f vs h K r

section
variable {G : Ctx} {m : GM} {h : Heap} {w w' : World}

theorem nones_get (n j : Nat) : hget (nones n) j = none := by
  induction n generalizing j with
  | zero => rfl
  | succ n ih => cases j with
    | zero => rfl
    | succ j => exact ih j

theorem nones_length (n : Nat) : (nones n).length = n := by
  induction n with
  | zero => rfl
  | succ n ih => simp [nones, ih]

theorem app_nones {n j : Nat} {ob : Ob} (hg : hget (h ++ nones n) j = some ob) : hget h j = some ob := by
  by_cases hj : j < h.length
  · rwa [hget_append_left hj] at hg
  · rw [hget_append_right (by omega), nones_get] at hg; cases hg

theorem newO_get (f : Nat → Option Nat) : ∀ {h : Heap} {j : Nat} {ob : Ob}, hget (newO f h) j = some ob → ∃ es, hget h j = some ⟨false, es⟩ ∧ ob = ⟨false, renLs f es⟩
  | [], j, ob, hg => by simp [newO, hget] at hg
  | some ⟨false, es⟩ :: r, 0, ob, hg => by simp only [newO, hget, Option.some.injEq] at hg; exact ⟨es, rfl, hg.symm⟩
  | some ⟨true, es⟩ :: r, 0, ob, hg => by simp [newO, hget] at hg
  | none :: r, 0, ob, hg => by simp [newO, hget] at hg
  | some ⟨false, es⟩ :: r, j + 1, ob, hg => by simp only [newO, hget] at hg; exact newO_get f (h := r) (j := j) hg
  | some ⟨true, es⟩ :: r, j + 1, ob, hg => by simp only [newO, hget] at hg; exact newO_get f (h := r) (j := j) hg
  | none :: r, j + 1, ob, hg => by simp only [newO, hget] at hg; exact newO_get f (h := r) (j := j) hg

theorem newO_length (f : Nat → Option Nat) : ∀ (h : Heap), (newO f h).length = h.length
  | [] => rfl
  | some ⟨false, es⟩ :: r => by simp [newO, newO_length f r]
  | some ⟨true, es⟩ :: r => by simp [newO, newO_length f r]
  | none :: r => by simp [newO, newO_length f r]

theorem dropN_get : ∀ (n : Nat) (h : Heap) (j : Nat), hget (dropN n h) j = hget h (n + j)
  | 0, h, j => by simp [dropN]
  | n + 1, [], j => by simp [dropN, hget]
  | n + 1, x :: r, j => by rw [show n + 1 + j = (n + j) + 1 by omega]; simp only [dropN, hget]; exact dropN_get n r j

theorem dropN_length : ∀ (n : Nat) (h : Heap), (dropN n h).length = h.length - n
  | 0, h => by simp [dropN]
  | n + 1, [] => by simp [dropN]
  | n + 1, x :: r => by simp [dropN, dropN_length n r]

/-- Who stands where behind a call. -/
theorem putBack_get (f : Nat → Option Nat) (n1 : Nat) : ∀ {sel : List Nat} {hs h : Heap} {id : Nat} {ob : Ob}, nodupB sel = true → hget (putBack f n1 sel hs h) id = some ob →
    (∃ j o o0, sel[j]? = some id ∧ id < n1 ∧ hget hs j = some o ∧ hget h id = some o0 ∧ ob = ⟨o0.ro, renLs f o.es⟩) ∨
    (id ∉ sel ∧ hget h id = some ob) ∨
    (∃ t es, id = h.length + t ∧ hget hs (sel.length + t) = some ⟨false, es⟩ ∧ ob = ⟨false, renLs f es⟩)
  | [], hs, h, id, ob, hn, hg => by
    simp only [putBack] at hg
    by_cases hj : id < h.length
    · rw [hget_append_left hj] at hg; exact .inr (.inl ⟨by simp, hg⟩)
    · rw [hget_append_right (by omega)] at hg
      obtain ⟨es, h1, h2⟩ := newO_get f hg
      exact .inr (.inr ⟨id - h.length, es, by omega, by simpa using h1, h2⟩)
  | i :: sel, [], h, id, ob, hn, hg => by
    simp only [putBack] at hg
    simp only [nodupB, Bool.and_eq_true] at hn
    rcases putBack_get f n1 hn.2 hg with ⟨j, o, o0, h1, h2, h3, h4, h6⟩ | ⟨h1, h2⟩ | ⟨t, es, h1, h2, h3⟩
    · simp [hget] at h3
    · rcases hget_hset h2 with ⟨_, h0⟩ | ⟨hne, h2⟩
      · cases h0
      · exact .inr (.inl ⟨by simp [hne, h1], h2⟩)
    · simp [hget] at h2
  | i :: sel, x :: hs, h, id, ob, hn, hg => by
    simp only [putBack] at hg
    simp only [nodupB, Bool.and_eq_true, Bool.not_eq_true'] at hn
    have hni : i ∉ sel := fun hm => by rw [← memN_iff] at hm; rw [hm] at hn; exact absurd hn.1 (by simp)
    rcases putBack_get f n1 hn.2 hg with ⟨j, o, o0, h1, h2, h3, h4, h6⟩ | ⟨h1, h2⟩ | ⟨t, es, h1, h2, h3⟩
    · have hne : i ≠ id := fun e => by subst e; exact hni (List.mem_of_getElem? h1)
      rw [hget_hset_ne hne] at h4
      exact .inl ⟨j + 1, o, o0, by simpa using h1, h2, h3, h4, h6⟩
    · rcases hget_hset h2 with ⟨rfl, h0⟩ | ⟨hne, h2⟩
      · unfold backO at h0
        split at h0
        · rename_i hlt
          split at h0
          · rename_i ra ea rb eb ha
            simp only [Option.some.injEq] at h0
            exact .inl ⟨0, ⟨rb, eb⟩, ⟨ra, ea⟩, rfl, hlt, rfl, ha, h0.symm⟩
          · cases h0
        · cases h0
      · exact .inr (.inl ⟨by simp [hne, h1], h2⟩)
    · rw [hset_length] at h1
      refine .inr (.inr ⟨t, es, h1, ?_, h3⟩)
      rw [List.length_cons, show sel.length + 1 + t = (sel.length + t) + 1 by omega]
      exact h2

theorem putBack_length (f : Nat → Option Nat) (n1 : Nat) : ∀ (sel : List Nat) (hs h : Heap), (putBack f n1 sel hs h).length = h.length + (hs.length - sel.length)
  | [], hs, h => by simp [putBack, newO_length]
  | i :: sel, [], h => by simp only [putBack]; rw [putBack_length f n1 sel, hset_length]; simp
  | i :: sel, x :: hs, h => by simp only [putBack]; rw [putBack_length f n1 sel, hset_length]; simp

/-- Parts of slices, lent: what is known of the objects that were laid for them. -/
structure Lent (m : GM) (h1 : Heap) (w : World) (u : Heap) (t : GM) (ids : List Nat) : Prop where
  len : t.length = u.length
  obs : ∀ j ob g, hget u j = some ob → t[j]? = some g → ob.ro = true ∧ ObRel (m ++ t) g w ob
  from_ : ∀ j ob g b, hget u j = some ob → t[j]? = some g → g.addr = some b → ∃ i o gi c, i ∈ ids ∧ hget h1 i = some o ∧ m[i]? = some gi ∧ gi.addr = some c ∧ c.1 = b.1

theorem lend_one (hi : Inv G m h w) {id off lo len : Nat} {cap : Option Nat} {k : EK} {l : List k.den} {v : Value} (hx : LRel m (.slice id off lo len cap) v) (hv : vis h (.slice id off lo len cap) = some ⟨k, l⟩) :
    ∃ g ob, hget h id = some ob ∧ SeqG g [.seq k 0 l] ∧ Placed g w true (cvs k l) ∧ (∀ b, g.addr = some b → ∃ gi c, m[id]? = some gi ∧ gi.addr = some c ∧ c.1 = b.1) ∧
      ∀ (mm : GM) (n : Nat), mm[n]? = some g → LRel mm (.full n) v := by
  have hv2 : visK k h (.slice id off lo len cap) = some l := by simp [visK, hv, cast_refl]
  have hrd := (visK_run (P := default) hi hx hv2).2.2
  obtain ⟨g0, A, C, hg0, rfl, hle, hcap, hln, hbb⟩ := hx
  obtain ⟨hlen, hcell⟩ := hrd A len C rfl
  obtain ⟨ob, hob⟩ : ∃ ob, hget h id = some ob := by
    simp only [vis] at hv
    split at hv
    · rename_i ob hob; exact ⟨ob, hob⟩
    · cases hv
  rcases hbb with hC | ⟨b, hb, hA, hsz⟩
  · have hl0 : l = [] := List.eq_nil_of_length_eq_zero (by omega)
    subst hl0
    refine ⟨ghOf none 0 [.seq k 0 []], ob, hob, ghOf_seq _ _ _, .inl ⟨rfl, rfl⟩, fun b hb => (by cases hb), fun mm n hg => ⟨_, hg, _, A, C, hg, ?_, ?_, ?_, ?_, .inl hC⟩⟩
    · simp [ghOf, drop0, hlen]
    · simp [ghOf, drop0]
    · intro c' hc; cases hc
    · simp
  · obtain ⟨hsg, cs, hoc, hpl⟩ := hi.obs id ob g0 hob hg0
    rcases hpl with ⟨_, h0⟩ | ⟨b', blk, t, fr, q1, q2, q3, q4, q5, q6⟩
    · rw [hb] at h0; cases h0
    · rw [hb] at q1
      cases q1
      have hkw : k.w = g0.ew off := by
        simp only [vis, hob] at hv
        split at hv
        · rename_i k2 n2 l2 r2 hes
          simp only [Option.some.injEq, Sigma.mk.injEq] at hv
          obtain ⟨rfl, _⟩ := hv
          exact (hsg off _ n2 l2 r2 hes).2
        · cases hv
      have hfit : (lo + len) * k.w ≤ (lo + C) * k.w := Nat.mul_le_mul_right _ (by omega)
      rw [← hkw] at hsz
      refine ⟨ghOf (some (b.1, b.2 + off + lo * k.w)) g0.sz [.seq k 0 l], ob, hob, ghOf_seq _ _ _, .inr ⟨_, blk, t, fr, rfl, q2, q3, ?_, fun j hj => ?_, fun h0 => by cases h0⟩, fun b2 hb2 => ?_, fun mm n hg => ⟨_, hg, _, A, C, hg, ?_, ?_, ?_, ?_, .inr ⟨_, rfl, ?_, ?_⟩⟩⟩
      · rw [cvs_length, ← hlen]
        simp only [ghOf]
        simp only [Nat.add_mul] at hfit hsz
        omega
      · have hne : l.length ≠ 0 := fun h0 => by rw [cvs_length, h0] at hj; simp at hj
        obtain ⟨p, hp, hc⟩ := hcell w (Ext.refl w) hne
        rw [hA] at hp
        cases hp
        have := hc j _ (List.getElem?_eq_getElem hj)
        rw [add_at] at this
        simp only [World.cell?, at_, q2] at this
        rw [List.getElem?_eq_getElem hj, ← this, ← hkw]
        simp [Nat.add_assoc]
      · cases hb2; exact ⟨g0, b, hg0, hb, rfl⟩
      · simp [ghOf, drop0, hlen]
      · simp [ghOf, drop0]; omega
      · intro c' hc; cases hc
      · simp
      · rw [hA, hkw]; simp [at_, Nat.add_assoc]
      · simp only [ghOf, drop0]
        simp only [Nat.add_mul] at hsz ⊢
        omega

end
end Go.Proofs.Ytillbabmlfjegaa.Ev
end

section
/- The evaluator is sound, thirteenth part: calls, the theorem. -/
namespace Go.Proofs.Ytillbabmlfjegaa.Ev
open Go
set_option linter.unusedVariables false

variable {P : Program}

section
variable {G : Ctx} {m : GM} {h : Heap} {w w' : World}

theorem lend_nil : Lent m h w [] [] [] := ⟨rfl, fun j ob g hg => by simp [hget] at hg, fun j ob g b hg => by simp [hget] at hg⟩

theorem Lent.snoc {u : Heap} {t : GM} {ids : List Nat} (hl : Lent m h w u t ids) {g : Gh} {k : EK} {l : List k.den} (hsg : SeqG g [.seq k 0 l]) (hpl : Placed g w true (cvs k l)) {id : Nat} {ob : Ob} (hob : hget h id = some ob)
    (hfr : ∀ b, g.addr = some b → ∃ gi c, m[id]? = some gi ∧ gi.addr = some c ∧ c.1 = b.1) : Lent m h w (u ++ [some ⟨true, [.seq k 0 l]⟩]) (t ++ [g]) (ids ++ [id]) := by
  refine ⟨by simp [hl.len], fun j o gj hj hgj => ?_, fun j o gj b hj hgj hb => ?_⟩
  · rcases hget_app hj with ⟨hlt, hj⟩ | ⟨rfl, h0⟩
    · rw [List.getElem?_append_left (by rw [hl.len]; exact hlt)] at hgj
      obtain ⟨h1, h2, cs, h3, h4⟩ := hl.obs j o gj hj hgj
      refine ⟨h1, h2, cs, ?_, h4⟩
      rw [← List.append_assoc]
      exact h3.mono (pre_append _ _)
    · cases h0
      rw [← hl.len] at hgj
      simp at hgj
      subst hgj
      exact ⟨rfl, hsg, _, seq_cells _ k l, hpl⟩
  · rcases hget_app hj with ⟨hlt, hj⟩ | ⟨rfl, h0⟩
    · rw [List.getElem?_append_left (by rw [hl.len]; exact hlt)] at hgj
      obtain ⟨i, o', gi, c, h1, h2⟩ := hl.from_ j o gj b hj hgj hb
      exact ⟨i, o', gi, c, by simp [h1], h2⟩
    · cases h0
      rw [← hl.len] at hgj
      simp at hgj
      subst hgj
      obtain ⟨gi, c, h1, h2⟩ := hfr b hb
      exact ⟨id, ob, gi, c, by simp, hob, h1, h2⟩

theorem lendVs_rel (hi : Inv G m h w) : ∀ (vs : List TV) (xs : List Value) (u : Heap) (t : GM) (ids : List Nat), Lent m h w u t ids → TVs m vs xs →
    ∃ u' t' , (lendVs vs (h ++ u)).2.1 = h ++ u ++ u' ∧ Lent m h w (u ++ u') (t ++ t') (ids ++ (lendVs vs (h ++ u)).2.2) ∧ TVs (m ++ (t ++ t')) (lendVs vs (h ++ u)).1 xs
  | [], xs, u, t, ids, hl, hx => ⟨[], [], by simp [lendVs], by simpa [lendVs] using hl, by cases xs <;> exact hx⟩
  | v :: r, [], u, t, ids, hl, hx => hx.elim
  | v :: r, x :: xs, u, t, ids, hl, hx => by
    have other : (∀ id off lo len cap, v ≠ .lf (.slice id off lo len cap)) → lendVs (v :: r) (h ++ u) = (v :: (lendVs r (h ++ u)).1, (lendVs r (h ++ u)).2.1, (lendVs r (h ++ u)).2.2) := by
      intro hne
      cases v with
      | agg l => rfl
      | lf y =>
        cases y
        case slice => exact absurd rfl (hne _ _ _ _ _)
        all_goals rfl
    by_cases hs : ∃ id off lo len cap, v = .lf (.slice id off lo len cap)
    · obtain ⟨id, off, lo, len, cap, rfl⟩ := hs
      have hxl : LRel m (.slice id off lo len cap) x := hx.1
      have hidlt : id < h.length := by
        obtain ⟨g, _, _, hg, _⟩ := hxl
        rw [← hi.len]
        exact (List.getElem?_eq_some_iff.1 hg).1
      have hvis : vis (h ++ u) (.slice id off lo len cap) = vis h (.slice id off lo len cap) := by
        simp only [vis, hget_append_left hidlt]
      cases hv : vis h (.slice id off lo len cap) with
      | none =>
        obtain ⟨u', t', h1, h2, h3⟩ := lendVs_rel hi r xs u t ids hl hx.2
        refine ⟨u', t', ?_, ?_, ?_⟩
        · simp only [lendVs, hvis, hv]; exact h1
        · simp only [lendVs, hvis, hv]; exact h2
        · simp only [lendVs, hvis, hv]; exact ⟨hxl.leaf, h3⟩
      | some kl =>
        obtain ⟨k, l⟩ := kl
        obtain ⟨g, ob, hob, hsg, hpl, hfr, hfull⟩ := lend_one hi hxl hv
        have hl' := hl.snoc hsg hpl hob hfr
        obtain ⟨u', t', h1, h2, h3⟩ := lendVs_rel hi r xs _ _ _ hl' hx.2
        refine ⟨[some ⟨true, [.seq k 0 l]⟩] ++ u', [g] ++ t', ?_, ?_, ?_⟩
        · simp only [lendVs, hvis, hv]
          rw [← List.append_assoc] at h1
          rw [h1]; simp
        · simp only [lendVs, hvis, hv]
          rw [← List.append_assoc] at h1 h2
          simp only [List.append_assoc] at h2 ⊢
          exact h2
        · simp only [lendVs, hvis, hv]
          refine ⟨hfull _ _ ?_, ?_⟩
          · rw [List.length_append, ← hi.len, ← hl.len]
            simp
          · simp only [List.append_assoc] at h3 ⊢
            exact h3
    · have hne : ∀ id off lo len cap, v ≠ .lf (.slice id off lo len cap) := fun id off lo len cap e => hs ⟨id, off, lo, len, cap, e⟩
      obtain ⟨u', t', h1, h2, h3⟩ := lendVs_rel hi r xs u t ids hl hx.2
      rw [other hne]
      exact ⟨u', t', h1, h2, hx.1.mono (pre_append _ _), h3⟩

theorem allLt_get {n : Nat} : ∀ {l : List Nat}, allLtB n l = true → ∀ {j i : Nat}, l[j]? = some i → i < n
  | [], _, j, i, h => by simp at h
  | a :: r, ha, j, i, h => by
    simp only [allLtB] at ha
    split at ha
    · rename_i hlt
      cases j with
      | zero => simp at h; subst h; exact hlt
      | succ j => exact allLt_get ha (by simpa using h)
    · cases ha

theorem anyMem_false : ∀ {l s : List Nat}, anyMem l s = false → ∀ {a : Nat}, a ∈ l → a ∉ s
  | [], _, _, a, h => by cases h
  | b :: r, s, hf, a, h => by
    simp only [anyMem] at hf
    split at hf
    · cases hf
    · rename_i hb
      rcases List.mem_cons.1 h with rfl | h
      · intro hm; rw [← memN_iff] at hm; exact hb hm
      · exact anyMem_false hf h

theorem roAll_get : ∀ {h : Heap} {j : Nat} {ob : Ob}, hget (roAll h) j = some ob → ∃ o, hget h j = some o ∧ ob = ⟨true, o.es⟩
  | [], j, ob, hg => by simp [roAll, hget] at hg
  | some o :: r, 0, ob, hg => by simp only [roAll, hget, Option.some.injEq] at hg; exact ⟨o, rfl, hg.symm⟩
  | none :: r, 0, ob, hg => by simp [roAll, hget] at hg
  | some o :: r, j + 1, ob, hg => by simp only [roAll, hget] at hg; exact roAll_get (h := r) (j := j) hg
  | none :: r, j + 1, ob, hg => by simp only [roAll, hget] at hg; exact roAll_get (h := r) (j := j) hg

theorem roAll_length : ∀ (h : Heap), (roAll h).length = h.length
  | [] => rfl
  | some o :: r => by simp [roAll, roAll_length r]
  | none :: r => by simp [roAll, roAll_length r]

theorem back_ren {sel : List Nat} {t : GM} (hlt : ∀ {j i : Nat}, sel[j]? = some i → i < m.length) : RenOK (backIds sel m.length) (pickM m sel ++ t) (m ++ t) := by
  intro j i hj g hg
  simp only [backIds] at hj
  have hpl : (pickM m sel).length = sel.length := by simp [pickM]
  split at hj
  · rename_i i' hi'
    simp only [Option.some.injEq] at hj
    subst hj
    have hjl : j < sel.length := (List.getElem?_eq_some_iff.1 hi').1
    rw [List.getElem?_append_left (by omega)] at hg
    have := pickM_back hi' (hlt hi') hg
    rw [List.getElem?_append_left (hlt hi')]
    exact this
  · rename_i hn
    simp only [Option.some.injEq] at hj
    subst hj
    have hjl : sel.length ≤ j := List.getElem?_eq_none_iff.1 hn
    rw [List.getElem?_append_right (by omega), hpl] at hg
    rw [List.getElem?_append_right (by omega)]
    rw [show m.length + (j - sel.length) - m.length = j - sel.length by omega]
    exact hg

theorem ResRel.ren {f : Nat → Option Nat} {m m' : GM} (hf : RenOK f m m') {rs : List TV} {v : Value} (h : ResRel m rs v) : ResRel m' (renVs f rs) v := by
  match rs, h with
  | [], ⟨vs, e, h⟩ => exact ⟨vs, e, h.ren hf⟩
  | [x], h => exact TVRel.ren hf h
  | x :: y :: r, ⟨vs, e, h⟩ => exact ⟨vs, e, h.ren hf⟩

theorem pickH_at (f : Nat → Option Nat) : ∀ {sel : List Nat} {j i : Nat} {o : Ob}, sel[j]? = some i → hget h i = some o → hget (pickH h f sel) j = some ⟨o.ro, renLs f o.es⟩
  | [], j, i, o, h1, _ => by simp at h1
  | a :: sel, 0, i, o, h1, h2 => by
    simp only [List.getElem?_cons_zero, Option.some.injEq] at h1
    subst h1
    simp [pickH, hget, h2, renO]
  | a :: sel, j + 1, i, o, h1, h2 => by
    simp only [List.getElem?_cons_succ] at h1
    simp only [pickH, hget]
    exact pickH_at f h1 h2

theorem callS_sound (hi : Inv G m h w) {f : FuncId} {S : Summ} (hs : SoundFn P f S) {dr : Bool} {args : List TV} {cvs : List Value} (hx : TVs m args cvs) {K : List TV → Heap → Option Res} {r : Res}
    (hev : callS dr S args h K = some r) :
    Calls P f cvs.toArray w fun e w' => ∃ rs h', K rs h' = some r ∧ ∃ v t, e = .returned v ∧ ResRel (m ++ t) rs v ∧ Inv G (m ++ t) h' w' ∧ (dr = true → Ext w w') := by
  unfold callS at hev
  obtain ⟨t1, u1, e1, i1, x1⟩ := matVs_rel args hi
  obtain ⟨t2, i2, _⟩ := matH_rel (matVs args h).2.length 0 i1
  simp only at hev
  generalize hq1 : (matVs args h).1 = q1 at *
  generalize hq2 : (matVs args h).2 = q2 at *
  generalize hh1 : matH q2.length 0 q2 = h1 at *
  have x2 : TVs (m ++ t1 ++ t2) q1 cvs := (x1 cvs hx).mono (pre_append _ _)
  generalize hm1 : m ++ t1 ++ t2 = m1 at *
  obtain ⟨u3, t3, e3, l3, x3⟩ := lendVs_rel i2 q1 cvs [] [] [] lend_nil x2
  simp only [List.append_nil, List.nil_append] at e3 l3 x3
  generalize hp1 : (lendVs q1 h1).1 = p1 at *
  generalize hp2 : (lendVs q1 h1).2.1 = h2 at *
  generalize hp3 : (lendVs q1 h1).2.2 = ids at *
  generalize hsel : reach h2 fuelR (idsOfVs p1) [] = sel at *
  have len1 : m1.length = h1.length := i2.len
  have len2 : (m1 ++ t3).length = h2.length := by rw [e3]; simp [len1, l3.len]
  have le12 : h1.length ≤ h2.length := by rw [e3]; simp
  -- the objects as the callee sees them
  have obs2 : ∀ (i : Nat) o g, hget h2 i = some o → (m1 ++ t3)[i]? = some g → ObRel (m1 ++ t3) g w o := by
    intro i o g ho hg
    rw [e3] at ho
    by_cases hlt : i < h1.length
    · rw [hget_append_left hlt] at ho
      rw [List.getElem?_append_left (by omega)] at hg
      obtain ⟨a1, cs, a2, a3⟩ := i2.obs i o g ho hg
      exact ⟨a1, cs, a2.mono (pre_append _ _), a3⟩
    · rw [hget_append_right (by omega)] at ho
      rw [List.getElem?_append_right (by omega), len1] at hg
      exact (l3.obs _ o g ho hg).2
  have lent_ro : ∀ (i : Nat) o, hget h2 i = some o → o.ro = false → i < h1.length ∧ hget h1 i = some o := by
    intro i o ho hro
    rw [e3] at ho
    by_cases hlt : i < h1.length
    · rw [hget_append_left hlt] at ho; exact ⟨hlt, ho⟩
    · rw [hget_append_right (by omega)] at ho
      have hjl : i - h1.length < t3.length := by rw [l3.len]; exact hget_lt ho
      have := (l3.obs _ o _ ho (List.getElem?_eq_getElem hjl)).1
      rw [hro] at this; cases this
  have get1 : ∀ (i : Nat) g, i < h1.length → (m1 ++ t3)[i]? = some g → m1[i]? = some g := fun i g hlt hg => by
    rwa [List.getElem?_append_left (by omega)] at hg
  have blk_lt : ∀ (i : Nat) o g b, hget h2 i = some o → (m1 ++ t3)[i]? = some g → g.addr = some b → b.1 < w.heap.size := by
    intro i o g b ho hg hb
    obtain ⟨_, cs, _, hp⟩ := obs2 i o g ho hg
    rcases hp with ⟨_, h0⟩ | ⟨b', blk, t, fr, q1, q2, _⟩
    · rw [hb] at h0; cases h0
    · rw [hb] at q1; cases q1; exact (Array.getElem?_eq_some_iff.1 q2).1
  split at hev
  · cases hev
  rename_i hnd
  have hnd' : nodupB sel = true ∧ allLtB h2.length sel = true := by
    cases hq : (nodupB sel && allLtB h2.length sel) with
    | true => simpa using hq
    | false => exact absurd (by rw [hq]; rfl) hnd
  obtain ⟨hnod, hall⟩ := hnd'
  have hlt2 : ∀ {j i : Nat}, sel[j]? = some i → i < (m1 ++ t3).length := fun hj => by rw [len2]; exact allLt_get hall hj
  have hren : RenOK (idx sel 0) (m1 ++ t3) (pickM (m1 ++ t3) sel) := pick_ren sel
  have hmt : ∀ t : GM, m1 ++ t3 ++ t = m ++ (t1 ++ t2 ++ t3 ++ t) := fun t => by rw [← hm1]; simp [List.append_assoc]
  split at hev
  · -- all is lent
    rename_i hdr
    have hcon := hs.ok _ _ _ _ hev
    let G' : Ctx := ⟨w, fun _ => False⟩
    have ic : Inv G' (pickM (m1 ++ t3) sel) (roAll (pickH h2 (idx sel 0) sel)) w := by
      refine ⟨by rw [roAll_length, pickH_length]; simp [pickM], fun j ob gj hj hgj => ?_, fun j ob gj c hj hgj hc => ?_, fun j1 j2 o1 o2 g1 g2 b c hne q1 q2 q3 _ _ _ _ _ => ?_, Str.refl w, Nat.le_refl _, fun _ _ _ => rfl⟩
      · obtain ⟨o', ho', rfl⟩ := roAll_get hj
        obtain ⟨i, o, a1, a2, rfl⟩ := pickH_get _ ho'
        have hg := pickM_back a1 (hlt2 a1) hgj
        obtain ⟨b1, cs, b2, b3⟩ := obs2 i o gj a2 hg
        refine ⟨seqG_xsh (xsh_rens _ _) b1, cs, b2.ren hren, ?_⟩
        rcases b3 with b3 | ⟨b, blk, t, fr, c1, c2, c3, c4, c5, _⟩
        · exact .inl b3
        · exact .inr ⟨b, blk, t, fr, c1, c2, c3, c4, c5, fun h0 => by cases h0⟩
      · obtain ⟨o', ho', rfl⟩ := roAll_get hj
        obtain ⟨i, o, a1, a2, rfl⟩ := pickH_get _ ho'
        exact ⟨fun h0 => h0, blk_lt i o gj c a2 (pickM_back a1 (hlt2 a1) hgj) hc⟩
      · obtain ⟨o', ho', rfl⟩ := roAll_get q1
        cases q3
    refine (hcon G' _ w cvs rfl ic (x3.ren hren)).mono ?_
    rintro e w' ⟨rs, h', hK, v, t, rfl, hrv, ir⟩
    have hext : Ext w w' := ⟨ir.str, ir.size, fun b hb => ir.frame b hb (fun h0 => h0)⟩
    have hb := back_ren (m := m1 ++ t3) (sel := sel) (t := t) hlt2
    rw [len2] at hb
    refine ⟨_, _, hK, v, t1 ++ t2 ++ t3 ++ t, rfl, by rw [← hmt]; exact hrv.ren hb, ?_, fun _ => hext⟩
    rw [← hmt]
    have hpl : (pickM (m1 ++ t3) sel).length = sel.length := by simp [pickM]
    have hlh' : h'.length = sel.length + t.length := by have := ir.len; simp [hpl] at this; omega
    have hbase : (h1 ++ nones (h2.length - h1.length)).length = h2.length := by
      rw [List.length_append, nones_length]
      have : h1.length ≤ h2.length := by rw [e3]; simp
      omega
    have hcase : ∀ (j : Nat) ob g, hget (h1 ++ nones (h2.length - h1.length) ++ newO (backIds sel h2.length) (dropN sel.length h')) j = some ob → (m1 ++ t3 ++ t)[j]? = some g →
        (j < h1.length ∧ hget h1 j = some ob ∧ m1[j]? = some g) ∨ (∃ q es, j = h2.length + q ∧ hget h' (sel.length + q) = some ⟨false, es⟩ ∧ ob = ⟨false, renLs (backIds sel h2.length) es⟩ ∧ (pickM (m1 ++ t3) sel ++ t)[sel.length + q]? = some g) := by
      intro j ob g hj hg
      by_cases hjl : j < (h1 ++ nones (h2.length - h1.length)).length
      · rw [hget_append_left hjl] at hj
        have hj' := app_nones hj
        have hl := hget_lt hj'
        refine .inl ⟨hl, hj', ?_⟩
        rw [List.getElem?_append_left (by omega)] at hg
        exact get1 j g hl hg
      · rw [hget_append_right (by omega)] at hj
        obtain ⟨es, hn, rfl⟩ := newO_get _ hj
        rw [dropN_get] at hn
        rw [hbase] at hn hjl
        refine .inr ⟨j - h2.length, es, by omega, hn, rfl, ?_⟩
        rw [List.getElem?_append_right (by rw [len2]; omega), len2] at hg
        rw [List.getElem?_append_right (by omega), hpl]
        rw [show sel.length + (j - h2.length) - sel.length = j - h2.length by omega]
        exact hg
    refine ⟨?_, fun j ob g hj hg => ?_, fun j ob g c hj hg hc => ?_, fun i j oi oj gi gj b c hne q1 q2 q3 q4 q5 q6 q7 q8 => ?_, i2.str.trans hext.str, Nat.le_trans i2.size hext.size, fun b hb hO => (hext.block b (Nat.lt_of_lt_of_le hb i2.size)).trans (i2.frame b hb hO)⟩
    · rw [List.length_append, len2, List.length_append, hbase, newO_length, dropN_length, hlh']; omega
    · rcases hcase j ob g hj hg with ⟨_, a2, a3⟩ | ⟨q, es, rfl, a2, rfl, a4⟩
      · obtain ⟨b1, cs, b2, b3⟩ := i2.obs j ob g a2 a3
        exact ⟨b1, cs, (b2.mono (pre_append _ _)).mono (pre_append _ _), b3.ext hext⟩
      · obtain ⟨b1, cs, b2, b3⟩ := ir.obs _ _ g a2 a4
        exact ⟨seqG_xsh (xsh_rens _ _) b1, cs, b2.ren hb, b3⟩
    · rcases hcase j ob g hj hg with ⟨_, a2, a3⟩ | ⟨q, es, rfl, a2, rfl, a4⟩
      · exact i2.own j ob g c a2 a3 hc
      · have := ir.own _ _ g c a2 a4 hc
        simp only [Own, Bool.false_eq_true, if_false] at this ⊢
        rcases this with h0 | h0
        · exact h0.elim
        · exact .inr (Nat.le_trans i2.size h0)
    · rcases hcase i oi gi q1 q5 with ⟨_, a2, a3⟩ | ⟨q, es, rfl, a2, rfl, a4⟩
      · rcases hcase j oj gj q2 q6 with ⟨_, b2, b3⟩ | ⟨q', es', rfl, b2, rfl, b4⟩
        · exact i2.dist i j oi oj gi gj b c hne a2 b2 q3 q4 a3 b3 q7 q8
        · have h1 := i2.block_lt a2 a3 q7
          have h2 := ir.own _ _ gj c b2 b4 q8
          simp only [Own, Bool.false_eq_true, if_false] at h2
          rcases h2 with h0 | h0
          · exact h0.elim
          · intro e
            have : w.heap.size ≤ c.1 := h0
            omega
      · rcases hcase j oj gj q2 q6 with ⟨_, b2, b3⟩ | ⟨q', es', rfl, b2, rfl, b4⟩
        · have h1 := i2.block_lt b2 b3 q8
          have h2 := ir.own _ _ gi b a2 a4 q7
          simp only [Own, Bool.false_eq_true, if_false] at h2
          rcases h2 with h0 | h0
          · exact h0.elim
          · intro e
            have : w.heap.size ≤ b.1 := h0
            omega
        · exact ir.dist _ _ _ _ gi gj b c (by omega) a2 b2 rfl rfl a4 b4 q7 q8
  · rename_i hdr
    split at hev
    · cases hev
    rename_i hany
    have hany' : anyMem ids sel = false := by simpa using hany
    have hcon := hs.ok _ _ _ _ hev
    let G' : Ctx := ⟨w, fun b => ∃ i o g b0, i ∈ sel ∧ hget h2 i = some o ∧ o.ro = false ∧ (m1 ++ t3)[i]? = some g ∧ g.addr = some b0 ∧ b0.1 = b⟩
    -- what the callee owns is the caller's own
    have ownO : ∀ b, G'.O b → G.O b ∨ G.w0.heap.size ≤ b := by
      rintro b ⟨i, o, g, b0, hs1, ho, hro, hg, hb0, rfl⟩
      obtain ⟨hlt, ho1⟩ := lent_ro i o ho hro
      have := i2.own i o g b0 ho1 (get1 i g hlt hg) hb0
      rw [hro] at this
      simpa [Own] using this
    have apart : ∀ (i : Nat) o g b0, hget h1 i = some o → m1[i]? = some g → g.addr = some b0 → (o.ro = true ∨ i ∉ sel) → ¬ G'.O b0.1 := by
      rintro i o g b0 ho hg hb0 hc ⟨i', o', g', b', hs1, ho', hro', hg', hb', he⟩
      obtain ⟨hlt', ho1'⟩ := lent_ro i' o' ho' hro'
      have hg1' := get1 i' g' hlt' hg'
      by_cases hii : i = i'
      · subst hii
        rw [ho] at ho1'
        cases ho1'
        rcases hc with hc | hc
        · rw [hro'] at hc; cases hc
        · exact hc hs1
      · cases hro : o.ro with
        | false => exact i2.dist i i' o o' g g' b0 b' hii ho ho1' hro hro' hg hg1' hb0 hb' he.symm
        | true =>
          have a1 := i2.own i o g b0 ho hg hb0
          have a2 := i2.own i' o' g' b' ho1' hg1' hb'
          rw [hro] at a1
          rw [hro'] at a2
          simp only [Own, if_true, Bool.false_eq_true, if_false] at a1 a2
          rw [he] at a2
          rcases a2 with a2 | a2
          · exact a1.1 a2
          · omega
    have ic : Inv G' (pickM (m1 ++ t3) sel) (pickH h2 (idx sel 0) sel) w := by
      refine ⟨by rw [pickH_length]; simp [pickM], fun j ob gj hj hgj => ?_, fun j ob gj c hj hgj hc => ?_, fun j1 j2 o1 o2 g1 g2 b c hne q1 q2 q3 q4 q5 q6 q7 q8 => ?_, Str.refl w, Nat.le_refl _, fun _ _ _ => rfl⟩
      · obtain ⟨i, o, a1, a2, rfl⟩ := pickH_get _ hj
        have hg := pickM_back a1 (hlt2 a1) hgj
        obtain ⟨b1, cs, b2, b3⟩ := obs2 i o gj a2 hg
        exact ⟨seqG_xsh (xsh_rens _ _) b1, cs, b2.ren hren, b3⟩
      · obtain ⟨i, o, a1, a2, rfl⟩ := pickH_get _ hj
        have hg := pickM_back a1 (hlt2 a1) hgj
        have hblt := blk_lt i o gj c a2 hg hc
        cases hro : o.ro with
        | false =>
          simp only [Own, Bool.false_eq_true, if_false]
          exact .inl ⟨i, o, gj, c, List.mem_of_getElem? a1, a2, hro, hg, hc, rfl⟩
        | true =>
          simp only [Own, if_true]
          refine ⟨?_, hblt⟩
          rw [e3] at a2
          by_cases hlt : i < h1.length
          · rw [hget_append_left hlt] at a2
            exact apart i o gj c a2 (get1 i gj hlt hg) hc (.inl hro)
          · rw [hget_append_right (by omega)] at a2
            rw [List.getElem?_append_right (by omega), len1] at hg
            obtain ⟨i0, o0, g0, c0, d1, d2, d3, d4, d5⟩ := l3.from_ _ o gj c a2 hg hc
            rw [← d5]
            exact apart i0 o0 g0 c0 d2 d3 d4 (.inr (anyMem_false hany' d1))
      · obtain ⟨i1, p1', a1, a2, rfl⟩ := pickH_get _ q1
        obtain ⟨i2', p2', b1, b2, rfl⟩ := pickH_get _ q2
        obtain ⟨l1, a2'⟩ := lent_ro i1 p1' a2 q3
        obtain ⟨l2, b2'⟩ := lent_ro i2' p2' b2 q4
        refine i2.dist i1 i2' p1' p2' g1 g2 b c (fun e => ?_) a2' b2' q3 q4 (get1 i1 g1 l1 (pickM_back a1 (hlt2 a1) q5)) (get1 i2' g2 l2 (pickM_back b1 (hlt2 b1) q6)) q7 q8
        subst e
        exact hne (nodupB_get hnod a1 b1)
    refine (hcon G' _ w cvs rfl ic (x3.ren hren)).mono ?_
    rintro e w' ⟨rs, h', hK, v, t, rfl, hrv, ir⟩
    have hb := back_ren (m := m1 ++ t3) (sel := sel) (t := t) hlt2
    rw [len2] at hb
    refine ⟨_, _, hK, v, t1 ++ t2 ++ t3 ++ t, rfl, by rw [← hmt]; exact hrv.ren hb, ?_, fun h0 => absurd h0 hdr⟩
    rw [← hmt]
    have hpl : (pickM (m1 ++ t3) sel).length = sel.length := by simp [pickM]
    have hlh' : h'.length = sel.length + t.length := by have := ir.len; simp [hpl] at this; omega
    have hbase : (h1 ++ nones (h2.length - h1.length)).length = h2.length := by
      rw [List.length_append, nones_length]
      have : h1.length ≤ h2.length := by rw [e3]; simp
      omega
    -- the three kinds of objects behind the call
    have hcase : ∀ (j : Nat) ob g, hget (putBack (backIds sel h2.length) h1.length sel h' (h1 ++ nones (h2.length - h1.length))) j = some ob → (m1 ++ t3 ++ t)[j]? = some g →
        (j ∉ sel ∧ hget h1 j = some ob ∧ m1[j]? = some g) ∨
        (∃ q o o0, sel[q]? = some j ∧ j < h1.length ∧ hget h' q = some o ∧ hget h1 j = some o0 ∧ (∀ b, g.addr = some b → o0.ro = o.ro) ∧ ob = ⟨o0.ro, renLs (backIds sel h2.length) o.es⟩ ∧ (pickM (m1 ++ t3) sel ++ t)[q]? = some g ∧ m1[j]? = some g) ∨
        (∃ q es, hget h' (sel.length + q) = some ⟨false, es⟩ ∧ ob = ⟨false, renLs (backIds sel h2.length) es⟩ ∧ (pickM (m1 ++ t3) sel ++ t)[sel.length + q]? = some g ∧ j = h2.length + q) := by
      intro j ob g hj hg
      rcases putBack_get _ _ hnod hj with ⟨q, o, o0, c1, c2, c3, c4, c6⟩ | ⟨c1, c2⟩ | ⟨q, es, c1, c2, c3⟩
      · have hgj : m1[j]? = some g := get1 j g c2 (by rwa [List.getElem?_append_left (by omega)] at hg)
        have hq : q < sel.length := (List.getElem?_eq_some_iff.1 c1).1
        have hpk : (pickM (m1 ++ t3) sel)[q]? = some g := pickM_get c1 (by rw [List.getElem?_append_left (by omega)]; exact hgj)
        have hpk2 : (pickM (m1 ++ t3) sel ++ t)[q]? = some g := by rw [List.getElem?_append_left (by omega)]; exact hpk
        refine .inr (.inl ⟨q, o, o0, c1, c2, c3, app_nones c4, fun b hb0 => ?_, c6, hpk2, hgj⟩)
        have hin : ∃ oi, hget (pickH h2 (idx sel 0) sel) q = some oi ∧ oi.ro = o0.ro := by
          have h4 : hget h2 j = some o0 := by rw [e3, hget_append_left c2]; exact app_nones c4
          exact ⟨⟨o0.ro, renLs (idx sel 0) o0.es⟩, pickH_at _ c1 h4, rfl⟩
        obtain ⟨oi, hoi, hor⟩ := hin
        have w1 := ic.own q oi g b hoi hpk hb0
        have w2 := ir.own q o g b c3 hpk2 hb0
        rw [← hor]
        cases hA : oi.ro <;> cases hB : o.ro <;> first | rfl | skip
        · rw [hA] at w1; rw [hB] at w2
          simp only [Own, if_true, Bool.false_eq_true, if_false] at w1 w2
          rcases w1 with w1 | w1
          · exact absurd w1 w2.1
          · omega
        · rw [hA] at w1; rw [hB] at w2
          simp only [Own, if_true, Bool.false_eq_true, if_false] at w1 w2
          rcases w2 with w2 | w2
          · exact absurd w2 w1.1
          · omega
      · have hj1 := app_nones c2
        have hl := hget_lt hj1
        exact .inl ⟨c1, hj1, get1 j g hl (by rwa [List.getElem?_append_left (by omega)] at hg)⟩
      · rw [hbase] at c1
        refine .inr (.inr ⟨q, es, c2, c3, ?_, c1⟩)
        subst c1
        rw [List.getElem?_append_right (by omega), len2] at hg
        rw [List.getElem?_append_right (by omega), hpl]
        rw [show sel.length + q - sel.length = q by omega]
        rw [show h2.length + q - h2.length = q by omega] at hg
        exact hg
    have untouched : ∀ (j : Nat) ob g b0, j ∉ sel → hget h1 j = some ob → m1[j]? = some g → g.addr = some b0 → w'.heap[b0.1]? = w.heap[b0.1]? := by
      intro j ob g b0 hj ho hg hb0
      exact ir.frame b0.1 (i2.block_lt ho hg hb0) (apart j ob g b0 ho hg hb0 (.inr hj))
    have newOwn : ∀ (q : Nat) es g b0, hget h' (sel.length + q) = some ⟨false, es⟩ → (pickM (m1 ++ t3) sel ++ t)[sel.length + q]? = some g → g.addr = some b0 → G'.O b0.1 ∨ w.heap.size ≤ b0.1 := by
      intro q es g b0 a1 a2 a3
      have := ir.own _ _ g b0 a1 a2 a3
      simpa [Own] using this
    refine ⟨?_, fun j ob g hj hg => ?_, fun j ob g c hj hg hc => ?_, fun i j oi oj gi gj b c hne q1 q2 q3 q4 q5 q6 q7 q8 => ?_, i2.str.trans ir.str, Nat.le_trans i2.size ir.size, fun b hb hO => ?_⟩
    · rw [List.length_append, len2, putBack_length, hbase, hlh']; omega
    · rcases hcase j ob g hj hg with ⟨a0, a1, a2⟩ | ⟨q, o, o0, a1, a2, a3, a4, a5, rfl, a7, a8⟩ | ⟨q, es, a1, rfl, a3, _⟩
      · obtain ⟨b1, cs, b2, b3⟩ := i2.obs j ob g a1 a2
        refine ⟨b1, cs, (b2.mono (pre_append _ _)).mono (pre_append _ _), ?_⟩
        rcases b3 with b3 | ⟨b', blk, tt, fr, c1, c2, c3⟩
        · exact .inl b3
        · exact .inr ⟨b', blk, tt, fr, c1, by rw [untouched j ob g b' a0 a1 a2 c1]; exact c2, c3⟩
      · obtain ⟨b1, cs, b2, b3⟩ := ir.obs q o g a3 a7
        refine ⟨seqG_xsh (xsh_rens _ _) b1, cs, b2.ren hb, ?_⟩
        rcases b3 with b3 | ⟨b', blk, tt, fr, c1, c2, c3, c4, c5, c6⟩
        · exact .inl b3
        · exact .inr ⟨b', blk, tt, fr, c1, c2, c3, c4, c5, fun h0 => c6 (by rw [← a5 b' c1]; exact h0)⟩
      · obtain ⟨b1, cs, b2, b3⟩ := ir.obs _ _ g a1 a3
        exact ⟨seqG_xsh (xsh_rens _ _) b1, cs, b2.ren hb, b3⟩
    · rcases hcase j ob g hj hg with ⟨a0, a1, a2⟩ | ⟨q, o, o0, a1, a2, a3, a4, a5, rfl, a7, a8⟩ | ⟨q, es, a1, rfl, a3, _⟩
      · exact i2.own j ob g c a1 a2 hc
      · exact i2.own j o0 g c a4 a8 hc
      · rcases newOwn q es g c a1 a3 hc with h0 | h0
        · simp only [Own, Bool.false_eq_true, if_false]; exact ownO _ h0
        · simp only [Own, Bool.false_eq_true, if_false]; exact .inr (Nat.le_trans i2.size h0)
    · rcases hcase i oi gi q1 q5 with ⟨a0, a1, a2⟩ | ⟨q, o, o0, a1, a2, a3, a4, a5, rfl, a7, a8⟩ | ⟨q, es, a1, rfl, a3, aj⟩
      · rcases hcase j oj gj q2 q6 with ⟨b0, b1, b2⟩ | ⟨q', o', o0', b1, b2, b3, b4, b5, rfl, b7, b8⟩ | ⟨q', es', b1, rfl, b3, bj⟩
        · exact i2.dist i j oi oj gi gj b c hne a1 b1 q3 q4 a2 b2 q7 q8
        · exact i2.dist i j oi o0' gi gj b c hne a1 b4 q3 q4 a2 b8 q7 q8
        · intro e
          rcases newOwn q' es' gj c b1 b3 q8 with h0 | h0
          · rw [← e] at h0; exact apart i oi gi b a1 a2 q7 (.inr a0) h0
          · have := i2.block_lt a1 a2 q7; omega
      · rcases hcase j oj gj q2 q6 with ⟨b0, b1, b2⟩ | ⟨q', o', o0', b1, b2, b3, b4, b5, rfl, b7, b8⟩ | ⟨q', es', b1, rfl, b3, bj⟩
        · exact i2.dist i j o0 oj gi gj b c hne a4 b1 q3 q4 a8 b2 q7 q8
        · exact i2.dist i j o0 o0' gi gj b c hne a4 b4 q3 q4 a8 b8 q7 q8
        · have hq : q < sel.length := (List.getElem?_eq_some_iff.1 a1).1
          exact ir.dist q (sel.length + q') o _ gi gj b c (by omega) a3 b1 (by rw [← a5 b q7]; exact q3) rfl a7 b3 q7 q8
      · rcases hcase j oj gj q2 q6 with ⟨b0, b1, b2⟩ | ⟨q', o', o0', b1, b2, b3, b4, b5, rfl, b7, b8⟩ | ⟨q', es', b1, rfl, b3, bj⟩
        · intro e
          rcases newOwn q es gi b a1 a3 q7 with h0 | h0
          · rw [e] at h0; exact apart j oj gj c b1 b2 q8 (.inr b0) h0
          · have := i2.block_lt b1 b2 q8; omega
        · have hq : q' < sel.length := (List.getElem?_eq_some_iff.1 b1).1
          exact ir.dist (sel.length + q) q' _ o' gi gj b c (by omega) a1 b3 rfl (by rw [← b5 c q8]; exact q4) a3 b7 q7 q8
        · exact ir.dist _ _ _ _ gi gj b c (by omega) a1 b1 rfl rfl a3 b3 q7 q8
    · have h0 : b < w.heap.size := Nat.lt_of_lt_of_le hb i2.size
      rw [ir.frame b h0 (fun h1 => by
        rcases ownO b h1 with h2 | h2
        · exact hO h2
        · omega)]
      exact i2.frame b hb hO

end
end Go.Proofs.Ytillbabmlfjegaa.Ev
end

section
/- The evaluator is sound, fourteenth part: regions. -/
namespace Go.Proofs.Ytillbabmlfjegaa.Ev
open Go
set_option linter.unusedVariables false

variable {P : Program}

def SoundT (P : Program) (T : FuncId → Option Summ) : Prop := ∀ f S, T f = some S → SoundFn P f S

def isLast (P : Program) (o : Oper) : Bool := !isPureOp P o.op && isDs o.op

section
variable {G : Ctx} {m : GM} {h : Heap} {w w' : World} {a : Act} {env : Env} {o : Oper} {r : Res} {T : FuncId → Option Summ}

/-- What is known behind an operation. -/
def Behind (P : Program) (G : Ctx) (m : GM) (w : World) (dr : Bool) (o : Oper) (K : AV → Heap → Option Res) (r : Res) (v : Value) (w' : World) : Prop :=
  ∃ av h' m', K av h' = some r ∧ Inv G m' h' w' ∧ Pre m m' ∧ (isTop av ∨ AVRel m' av v) ∧ (dr = true → isLast P o = false → Ext w w')

theorem retAV_rel {rs : List TV} {v : Value} (h : ResRel m rs v) : AVRel m (retAV rs) v := by
  match rs, h with
  | [], h => exact h
  | [x], h => exact h
  | x :: y :: r, h => exact h

theorem fnOf_rel (he : ERel m env a) {x : Operand} {f : FuncId} (hf : fnOf env x = some f) : a.eval x = .func (.func f) #[] #[] := by
  unfold fnOf at hf
  split at hf
  · cases hf; rfl
  · rename_i i
    split at hf
    · rename_i f' hi'
      cases hf
      rcases he.val i with h0 | h0
      · rw [hi'] at h0; exact h0.elim
      · rw [hi'] at h0; exact h0
    · cases hf
  · cases hf

/-- An operation, carried out. -/
theorem evOp_wp (hT : SoundT P T) (hi : Inv G m h w) (he : ERel m env a) {dr : Bool} {K : AV → Heap → Option Res} (hev : evOp P T dr o env h K = some r)
    {next : Act → World → Prop} {Q : Exit → Act → World → Prop} (hn : ∀ v w', Behind P G m w dr o K r v w' → next (a.put o.dst v) w') : o.wp P a w next Q := by
  unfold evOp at hev
  unfold Oper.wp
  split at hev
  · obtain ⟨av, v, h1, h2, h3⟩ := evPure_sound hi he hev
    rw [h3 w (Ext.refl w), Oper.upon_value]
    exact hn v w ⟨av, h, m, h1, hi, Pre.refl m, .inr h2, fun _ _ => Ext.refl w⟩
  · rename_i hnp
    have eff : evEff P o env h K = some r → o.upon P a next Q ((execOp a.eval o).run P w) := by
      intro hev
      obtain ⟨av, h', h1, n, v, w', m', h2, h3, h4, h5, h6, h7⟩ := evEff_sound hi he hev
      rw [h2]
      have hb : Behind P G m w dr o K r v w' := ⟨av, h', m', h1, h4, h5, h6, fun _ hd => h7 (by unfold isLast at hd; rw [Bool.eq_false_iff.2 hnp] at hd; simpa using hd)⟩
      rcases h3 with rfl | ⟨rfl, rfl⟩
      · rw [Oper.upon_value]; exact hn v w' hb
      · rw [Oper.upon_skip]; exact hn _ w' hb
    split at hev
    · rename_i c hc
      split at hev
      · rename_i xf hxf
        split at hev
        · rename_i f hf
          split at hev
          · rename_i S args hS hargs
            have hs := hT f S hS
            have hx := (argVals_rel he hargs).vals
            rw [callF_eq] at hev
            have hcall := callS_sound hi hs hx hev
            have hrun : (execOp a.eval o).run P w = .ok (.enter f (c.args.map a.eval)) w := by
              have hfv : a.eval xf = .func (.func f) #[] #[] := fnOf_rel he hf
              simp only [execOp, hc, resolve, hxf, hfv, Deferred.ofValue, Sem.run_bind, Sem.run_pure, Result.andThen_ok, invoke, Array.empty_append, Array.append_empty, hs.enter]
            rw [hrun, Oper.upon_enter]
            have hargs' : (c.args.toList.map a.eval).toArray = c.args.map a.eval := by
              apply Array.ext'; simp
            rw [hargs'] at hcall
            refine hcall.mono ?_
            rintro e w' ⟨rs, h', hK, v, t, rfl, hrv, hi', hext⟩
            exact hn v w' ⟨_, _, _, hK, hi', pre_append m t, .inr (retAV_rel hrv), fun hd _ => hext hd⟩
          · cases hev
        · exact eff hev
      · exact eff hev
    · exact eff hev

theorem tmp_bool (he : ERel m env a) {s : Nat} {b : Bool} (hs : eget env s = .tv (.lf (.bool b))) : a.tmps[s]? = some (.bool b) := by
  have := he.val s
  rw [hs] at this
  rcases this with h0 | h0
  · exact h0.elim
  · have h1 : a.tmps.getD s undef = .bool b := h0
    simp only [Array.getD_eq_getD_getElem?] at h1
    cases hq : a.tmps[s]? with
    | none => rw [hq] at h1; cases h1
    | some v => rw [hq] at h1; simp only [Option.getD_some] at h1; rw [h1]

theorem tmp_und (he : ERel m env a) {s : Nat} (hs : eget env s = .tup []) : (match a.tmps[s]? with | some (.bool b) => some b | _ => none) = none := by
  have := he.val s
  rw [hs] at this
  rcases this with h0 | h0
  · exact h0.elim
  · obtain ⟨vs, h1, h2⟩ := h0
    simp only [Array.getD_eq_getD_getElem?] at h1
    cases hq : a.tmps[s]? with
    | none => rfl
    | some v => rw [hq] at h1; simp only [Option.getD_some] at h1; rw [h1]

theorem ERel.lit (he : ERel m env a) {s : Nat} {b : Bool} (hs : eget env s = .tv (.lf (.bool b))) : ERel m (eset env s (.tv (.lf (.bool b)))) a := by
  refine ⟨by rw [eset_length]; exact he.len, he.dfr, fun i => ?_⟩
  by_cases hi : s = i
  · subst hi
    have := he.val s
    rw [hs] at this
    by_cases hl : s < env.length
    · rw [eget_eset_same hl]; exact this
    · rw [eget_out (by rw [eset_length]; exact Nat.le_of_not_lt hl)]; exact .inl trivial
  · rw [eget_eset_ne hi]; exact he.val i

/-- What is known behind one operation of a region, wanted or not. -/
def Behind2 (P : Program) (G : Ctx) (m : GM) (w : World) (dr : Bool) (o : Oper) (K : Env → Heap → Option Res) (r : Res) (a' : Act) (w' : World) : Prop :=
  ∃ env' h' m', K env' h' = some r ∧ Inv G m' h' w' ∧ Pre m m' ∧ ERel m' env' a' ∧ (dr = true → isLast P o = false → Ext w w')

/-- One operation of a region: if it is wanted it is carried out, else its slot is emptied. -/
theorem evStep_wp (hT : SoundT P T) (hi : Inv G m h w) (he : ERel m env a) {dr : Bool} {ops : Array Oper} {K : Env → Heap → Option Res} (hev : evStep P T dr ops.toList o env h K = some r)
    {next : Act → World → Prop} {Q : Exit → Act → World → Prop} (hn : ∀ a' w', Behind2 P G m w dr o K r a' w' → next a' w') :
    if Region.wanted o (yielded ops a.tmps) then o.wp P a w next Q else next (a.put o.dst undef) w := by
  unfold evStep at hev
  simp only [dstF_eq, esetF_eq] at hev
  have carry : ∀ {env1 : Env}, ERel m env1 a → evOp P T dr o env1 h (fun v h' => K (dstSet env1 o.dst v) h') = some r → o.wp P a w next Q := by
    intro env1 he1 hev1
    refine evOp_wp hT hi he1 hev1 fun v w' ⟨av, h', m', h1, h2, h3, h4, h5⟩ => hn _ _ ⟨_, h', m', h1, h2, h3, (he1.mono h3).put h4, h5⟩
  have skip : ∀ {env1 : Env}, ERel m env1 a → K (dstSet env1 o.dst (.tup [])) h = some r → next (a.put o.dst undef) w := by
    intro env1 he1 hev1
    exact hn _ _ ⟨_, h, m, hev1, hi, Pre.refl m, he1.put (.inr ⟨#[], rfl, trivial⟩), fun _ _ => Ext.refl w⟩
  split at hev
  · rename_i hg
    have : Region.wanted o (yielded ops a.tmps) = true := by simp [Region.wanted, hg]
    rw [if_pos this]
    exact carry he hev
  · rename_i j want hg
    split at hev
    · rename_i oj hoj
      split at hev
      · rename_i s hs
        split at hev
        · rename_i b hb
          have hoj' : ops[j]? = some oj := by simpa using hoj
          have hy : yielded ops a.tmps j = some b := by
            simp only [yielded, hoj', Option.bind_some, hs, tmp_bool he hb]
          have hwant : Region.wanted o (yielded ops a.tmps) = (b == want) := by
            simp only [Region.wanted, hg, hy]
            cases b <;> cases want <;> rfl
          rw [hwant]
          cases b with
          | true =>
            simp only [cond_true] at hev
            cases want with
            | true => simp only [if_true] at hev; exact carry (he.lit hb) hev
            | false => simp only [Bool.false_eq_true, if_false] at hev; exact skip (he.lit hb) hev
          | false =>
            simp only [cond_false] at hev
            cases want with
            | true => simp only [if_true] at hev; exact skip (he.lit hb) hev
            | false => simp only [Bool.false_eq_true, if_false] at hev; exact carry (he.lit hb) hev
        · rename_i hb
          have hoj' : ops[j]? = some oj := by simpa using hoj
          have hy : yielded ops a.tmps j = none := by
            simp only [yielded, hoj', Option.bind_some, hs]
            exact tmp_und he hb
          have hwant : Region.wanted o (yielded ops a.tmps) = false := by
            simp only [Region.wanted, hg, hy]
            cases want <;> rfl
          rw [hwant]
          exact skip he hev
        · cases hev
      · cases hev
    · cases hev

theorem evOps_wp (hT : SoundT P T) {ops : Array Oper} {Q : Exit → Act → World → Prop} :
    ∀ (l : List Oper) {m : GM} {h : Heap} {w : World} {a : Act} {env : Env} {K : Env → Heap → Option Res}, Inv G m h w → ERel m env a → evOps P T ops.toList l env h K = some r →
      (∀ env' h' m' a' w', K env' h' = some r → Inv G m' h' w' → Pre m m' → ERel m' env' a' → Q .normal a' w') → wpList P ops Q l a w
  | [], m, h, w, a, env, K, hi, he, hev, hq => hq env h m a w hev hi (Pre.refl m) he
  | o :: l, m, h, w, a, env, K, hi, he, hev, hq => by
    simp only [evOps] at hev
    have := evStep_wp hT hi he (ops := ops) (Q := Q) (next := wpList P ops Q l) hev fun a' w' ⟨env', h', m', h1, h2, h3, h4, _⟩ =>
      evOps_wp hT l h2 h4 h1 fun env2 h2' m2 a2 w2 q1 q2 q3 q4 => hq env2 h2' m2 a2 w2 q1 q2 (h3.trans q3) q4
    simp only [wpList]
    split
    · rename_i hw; rw [if_pos hw] at this; exact .inl this
    · rename_i hw; rw [if_neg hw] at this; exact this

/-! ### Any order -/

/-- Whatever order is picked; and what turns no memory that was there says so. -/
def wpAnyE (P : Program) (ops : Array Oper) (Q : Exit → Act → World → Prop) : Nat → Array Bool → Act → World → Prop
  | 0, listed, a, w => Region.ready .any ops listed = [] ∧ Q .normal a w
  | fuel + 1, listed, a, w =>
    (Region.ready .any ops listed = [] → Q .normal a w) ∧
    ∀ i ∈ Region.ready .any ops listed, wpOp P ops Q i (fun a' w' => ((∀ o, ops[i]? = some o → isLast P o = false) → Ext w w') ∧ wpAnyE P ops Q fuel (listed.setIfInBounds i true) a' w') a w

theorem wpAny_of_E {ops : Array Oper} {Q : Exit → Act → World → Prop} : ∀ (fuel : Nat) (listed : Array Bool) (a : Act) (w : World), wpAnyE P ops Q fuel listed a w → wpAny P .any ops Q fuel listed a w
  | 0, _, _, _, h => h
  | fuel + 1, _, _, _, h => ⟨h.1, fun i hi => wpOp_mono (fun a' w' h' => wpAny_of_E fuel _ a' w' h'.2) (h.2 i hi)⟩

def Closed (ops : Array Oper) (listed : Array Bool) : Prop :=
  ∀ j oj, ops[j]? = some oj → listed.getD j false = true → ∀ e ∈ oj.after, Region.binds .any e = true → listed.getD e.on false = true

theorem Closed.set {ops : Array Oper} {listed : Array Bool} {i : Nat} (h : Closed ops listed) (hi : i ∈ Region.ready .any ops listed) : Closed ops (listed.setIfInBounds i true) := by
  obtain ⟨_, oi, hoi, hall⟩ := mem_ready.1 hi
  intro j oj hj hl e he hb
  by_cases hij : i = j
  · subst hij
    have : oj = oi := Option.some.inj (hj.symm.trans hoi)
    subst this
    exact getD_set_true (hall e he hb)
  · rw [getD_set_ne false hij] at hl
    exact getD_set_true (h j oj hj hl e he hb)

theorem waits_listed {ops : Array Oper} {listed : Array Bool} {i : Nat} (hc : Closed ops listed) : ∀ (fuel d : Nat), waitsB ops i fuel d = true → listed.getD d false = true → listed.getD i false = true
  | 0, _, h, _ => by simp [waitsB] at h
  | fuel + 1, d, h, hl => by
    unfold waitsB at h
    cases ho : ops[d]? with
    | none => rw [ho] at h; simp at h
    | some o =>
      rw [ho] at h
      obtain ⟨e, he, h1⟩ := Array.any_eq_true'.1 h
      simp only [Bool.and_eq_true, Bool.or_eq_true, beq_iff_eq] at h1
      have hle := hc d o ho hl e he h1.1
      rcases h1.2 with h2 | h2
      · rw [← h2]; exact hle
      · exact waits_listed hc fuel e.on h2 hle

theorem not_listed {listed : Array Bool} {i : Nat} (h1 : listed.getD i true = false) (h2 : listed.getD i false = true) : False := by
  rcases Nat.lt_or_ge i listed.size with h' | h'
  · simp [h'] at h1 h2
    rw [h1] at h2; cases h2
  · simp [Array.getElem?_eq_none h'] at h1

theorem waits_not_ready {ops : Array Oper} {listed : Array Bool} {i d fuel : Nat} (hc : Closed ops listed) (hr : waitsB ops i fuel d = true) (hun : listed.getD i true = false) : d ∉ Region.ready .any ops listed := by
  intro hd
  obtain ⟨_, o, ho, hall⟩ := mem_ready.1 hd
  refine not_listed hun ?_
  cases fuel with
  | zero => simp [waitsB] at hr
  | succ n =>
    unfold waitsB at hr
    rw [ho] at hr
    obtain ⟨e, he, h1⟩ := Array.any_eq_true'.1 hr
    simp only [Bool.and_eq_true, Bool.or_eq_true, beq_iff_eq] at h1
    have hle := hall e he h1.1
    rcases h1.2 with h2 | h2
    · rw [← h2]; exact hle
    · exact waits_listed hc n e.on h2 hle

/-- An operation that turns no memory may be taken first. -/
theorem wpAnyE_first {ops : Array Oper} {Q : Exit → Act → World → Prop} {i : Nat} {oi : Oper} {v : Value} {wi : World} (hi : ops[i]? = some oi) (hsel : ∀ (j : Nat) (o : Oper) cs b, ops[j]? = some o → o.op ≠ .select cs b)
    (hQ : ∀ c a w, Q (.panic c) (a.put oi.dst v) w → Q (.panic c) a w) (n : Nat) :
    ∀ (fuel : Nat) (listed : Array Bool) (a : Act) (w : World),
      (∀ j oj, ops[j]? = some oj → j ≠ i → listed.getD j true = false → (∀ e ∈ oj.after, Region.binds .any e = true → e.on ≠ i) → oi.apart ops oj = true) →
      Closed ops listed → (∀ d od, ops[d]? = some od → d ≠ i → isLast P od = true → listed.getD d true = false → waitsB ops i n d = true) →
      i ∈ Region.ready .any ops listed → YieldsIf P ops (Ext wi) oi v a → Ext wi w →
      wpAnyE P ops Q fuel (listed.setIfInBounds i true) (a.put oi.dst v) w → wpAnyE P ops Q (fuel + 1) listed a w := by
  intro fuel
  induction fuel with
  | zero =>
    intro listed a w _ _ _ hr hy hS H
    refine ⟨fun h => (by rw [h] at hr; cases hr), fun j hj => ?_⟩
    by_cases hji : j = i
    · subst hji; exact hy.wpOp hi hS ⟨fun _ => Ext.refl w, H⟩
    · have := ready_mono hj hji
      rw [H.1] at this
      cases this
  | succ fuel ih =>
    intro listed a w hfree hc hd hr hy hS H
    refine ⟨fun h => (by rw [h] at hr; cases hr), fun j hj => ?_⟩
    by_cases hji : j = i
    · subst hji; exact hy.wpOp hi hS ⟨fun _ => Ext.refl w, H⟩
    · have h1 := H.2 j (ready_mono hj hji)
      obtain ⟨hjun, oj, hoj, hall⟩ := mem_ready.1 hj
      have hiun := (mem_ready.1 hr).1
      have hnot : ∀ e ∈ oj.after, Region.binds .any e = true → e.on ≠ i := fun e he hb heq => by
        have h1 := hall e he hb
        rw [heq] at h1
        exact not_listed hiun h1
      have hjd : isLast P oj = false := by
        cases hq : isLast P oj with
        | false => rfl
        | true => exact absurd hj (waits_not_ready hc (hd j oj hoj hji hq hjun) hiun)
      have h2 := wpOp_putIf hoj (hfree j oj hoj hji hjun hnot) (fun cs b => hsel i oi cs b hi) (fun cs b => hsel j oj cs b hoj) hQ hy h1
      have hfree' : ∀ k ok, ops[k]? = some ok → k ≠ i → (listed.setIfInBounds j true).getD k true = false →
          (∀ e ∈ ok.after, Region.binds .any e = true → e.on ≠ i) → oi.apart ops ok = true := fun k ok hk hki hun hno => by
        refine hfree k ok hk hki ?_ hno
        by_cases hjk : j = k
        · subst hjk; exact hjun
        · rw [getD_set_ne true hjk] at hun; exact hun
      have hd' : ∀ d od, ops[d]? = some od → d ≠ i → isLast P od = true → (listed.setIfInBounds j true).getD d true = false → waitsB ops i n d = true := fun d od hod hne hl hun => by
        refine hd d od hod hne hl ?_
        by_cases hjk : j = d
        · subst hjk; exact hjun
        · rw [getD_set_ne true hjk] at hun; exact hun
      refine wpOp_mono (fun a' w' h3 => ⟨h3.2.1, ih (listed.setIfInBounds j true) a' w' hfree' (hc.set hj) hd' (ready_mono hr (Ne.symm hji)) h3.1 (hS.trans (h3.2.1 fun o ho => ?_)) ?_⟩) h2
      · rw [Array.setIfInBounds_comm _ _ hji]
        exact h3.2.2
      · rw [hoj] at ho; cases ho; exact hjd

/-- An operation that looks at no memory may be taken first. -/
theorem wpAnyE_first0 {ops : Array Oper} {Q : Exit → Act → World → Prop} {i : Nat} {oi : Oper} {v : Value} (hi : ops[i]? = some oi) (hsel : ∀ (j : Nat) (o : Oper) cs b, ops[j]? = some o → o.op ≠ .select cs b)
    (hQ : ∀ c a w, Q (.panic c) (a.put oi.dst v) w → Q (.panic c) a w) :
    ∀ (fuel : Nat) (listed : Array Bool) (a : Act) (w : World),
      (∀ j oj, ops[j]? = some oj → j ≠ i → listed.getD j true = false → (∀ e ∈ oj.after, Region.binds .any e = true → e.on ≠ i) → oi.apart ops oj = true) →
      i ∈ Region.ready .any ops listed → YieldsIf P ops (fun _ => True) oi v a →
      wpAnyE P ops Q fuel (listed.setIfInBounds i true) (a.put oi.dst v) w → wpAnyE P ops Q (fuel + 1) listed a w := by
  intro fuel
  induction fuel with
  | zero =>
    intro listed a w _ hr hy H
    refine ⟨fun h => (by rw [h] at hr; cases hr), fun j hj => ?_⟩
    by_cases hji : j = i
    · subst hji; exact hy.wpOp hi trivial ⟨fun _ => Ext.refl w, H⟩
    · have := ready_mono hj hji
      rw [H.1] at this
      cases this
  | succ fuel ih =>
    intro listed a w hfree hr hy H
    refine ⟨fun h => (by rw [h] at hr; cases hr), fun j hj => ?_⟩
    by_cases hji : j = i
    · subst hji; exact hy.wpOp hi trivial ⟨fun _ => Ext.refl w, H⟩
    · have h1 := H.2 j (ready_mono hj hji)
      obtain ⟨hjun, oj, hoj, hall⟩ := mem_ready.1 hj
      have hiun := (mem_ready.1 hr).1
      have hnot : ∀ e ∈ oj.after, Region.binds .any e = true → e.on ≠ i := fun e he hb heq => by
        have h1 := hall e he hb
        rw [heq] at h1
        exact not_listed hiun h1
      have h2 := wpOp_putIf hoj (hfree j oj hoj hji hjun hnot) (fun cs b => hsel i oi cs b hi) (fun cs b => hsel j oj cs b hoj) hQ hy h1
      have hfree' : ∀ k ok, ops[k]? = some ok → k ≠ i → (listed.setIfInBounds j true).getD k true = false →
          (∀ e ∈ ok.after, Region.binds .any e = true → e.on ≠ i) → oi.apart ops ok = true := fun k ok hk hki hun hno => by
        refine hfree k ok hk hki ?_ hno
        by_cases hjk : j = k
        · subst hjk; exact hjun
        · rw [getD_set_ne true hjk] at hun; exact hun
      refine wpOp_mono (fun a' w' h3 => ⟨h3.2.1, ih (listed.setIfInBounds j true) a' w' hfree' (ready_mono hr (Ne.symm hji)) h3.1 ?_⟩) h2
      rw [Array.setIfInBounds_comm _ _ hji]
      exact h3.2.2

end
end Go.Proofs.Ytillbabmlfjegaa.Ev
end

section
/- The evaluator is sound, fifteenth part: a region whose order is drawn. -/
namespace Go.Proofs.Ytillbabmlfjegaa.Ev
open Go
set_option linter.unusedVariables false

variable {P : Program}

section
variable {G : Ctx} {m : GM} {h : Heap} {w w' : World} {a : Act} {env : Env} {o : Oper} {r : Res} {T : FuncId → Option Summ}

theorem evStep_pure (hi : Inv G m h w) (he : ERel m env a) {dr : Bool} {ops : Array Oper} {K : Env → Heap → Option Res} (hp : isPureOp P o.op = true) (hev : evStep P T dr ops.toList o env h K = some r) :
    ∃ v env', YieldsIf P ops (Ext w) o v a ∧ K env' h = some r ∧ ERel m env' (a.put o.dst v) := by
  unfold evStep at hev
  simp only [dstF_eq, esetF_eq] at hev
  have carry : ∀ {env1 : Env}, ERel m env1 a → Region.wanted o (yielded ops a.tmps) = true → evOp P T dr o env1 h (fun v h' => K (dstSet env1 o.dst v) h') = some r →
      ∃ v env', YieldsIf P ops (Ext w) o v a ∧ K env' h = some r ∧ ERel m env' (a.put o.dst v) := by
    intro env1 he1 hw hev1
    unfold evOp at hev1
    rw [if_pos hp] at hev1
    obtain ⟨av, v, h1, h2, h3⟩ := evPure_sound hi he1 hev1
    exact ⟨v, _, .inl ⟨hw, h3⟩, h1, he1.put (.inr h2)⟩
  have skip : ∀ {env1 : Env}, ERel m env1 a → Region.wanted o (yielded ops a.tmps) = false → K (dstSet env1 o.dst (.tup [])) h = some r →
      ∃ v env', YieldsIf P ops (Ext w) o v a ∧ K env' h = some r ∧ ERel m env' (a.put o.dst v) := by
    intro env1 he1 hw hev1
    exact ⟨undef, _, .inr ⟨hw, rfl⟩, hev1, he1.put (.inr ⟨#[], rfl, trivial⟩)⟩
  split at hev
  · rename_i hg
    have : Region.wanted o (yielded ops a.tmps) = true := by simp [Region.wanted, hg]
    exact carry he this hev
  · rename_i j want hg
    split at hev
    · rename_i oj hoj
      split at hev
      · rename_i s hs
        split at hev
        · rename_i b hb
          have hoj' : ops[j]? = some oj := by simpa using hoj
          have hy : yielded ops a.tmps j = some b := by
            simp only [yielded, hoj', Option.bind_some, hs, tmp_bool he hb]
          have hwant : Region.wanted o (yielded ops a.tmps) = (b == want) := by
            simp only [Region.wanted, hg, hy]
            cases b <;> cases want <;> rfl
          cases b with
          | true =>
            simp only [cond_true] at hev
            cases want with
            | true => simp only [if_true] at hev; exact carry (he.lit hb) hwant hev
            | false => simp only [Bool.false_eq_true, if_false] at hev; exact skip (he.lit hb) hwant hev
          | false =>
            simp only [cond_false] at hev
            cases want with
            | true => simp only [if_true] at hev; exact skip (he.lit hb) hwant hev
            | false => simp only [Bool.false_eq_true, if_false] at hev; exact carry (he.lit hb) hwant hev
        · rename_i hb
          have hoj' : ops[j]? = some oj := by simpa using hoj
          have hy : yielded ops a.tmps j = none := by
            simp only [yielded, hoj', Option.bind_some, hs]
            exact tmp_und he hb
          have hwant : Region.wanted o (yielded ops a.tmps) = false := by
            simp only [Region.wanted, hg, hy]
            cases want <;> rfl
          exact skip he hwant hev
        · cases hev
      · cases hev
    · cases hev

theorem lastB_spec {ops : Array Oper} {listed : Array Bool} {i : Nat} (h : lastB P ops listed i = true) (d : Nat) (od : Oper) (hod : ops[d]? = some od) (hne : d ≠ i) (hl : isLast P od = true)
    (hun : listed.getD d true = false) : waitsB ops i ops.size d = true := by
  have hd : d < ops.size := by
    rcases Nat.lt_or_ge d ops.size with h' | h'
    · exact h'
    · rw [Array.getElem?_eq_none h'] at hod; cases hod
  unfold lastB at h
  have := List.all_eq_true.1 h d (List.mem_range.2 hd)
  simp only [hod] at this
  have hl' : (!isPureOp P od.op && isDs od.op) = true := hl
  rw [hl', hun] at this
  simpa [hne] using this

theorem wpOp_of {ops : Array Oper} {Q : Exit → Act → World → Prop} {i : Nat} {oi : Oper} {next : Act → World → Prop} (hoi : ops[i]? = some oi)
    (hs : if Region.wanted oi (yielded ops a.tmps) then oi.wp P a w next Q else next (a.put oi.dst undef) w) : wpOp P ops Q i next a w := by
  unfold wpOp
  simp only [hoi]
  split
  · rename_i hw; rw [if_pos hw] at hs; exact .inl hs
  · rename_i hw; rw [if_neg hw] at hs; exact hs

theorem evStep_move (he : ERel m env a) {ops : Array Oper} {K : Env → Heap → Option Res} (hp : isMove o.op = true) (hi : Inv G m h w) (hev : evStep P T true ops.toList o env h K = some r) :
    ∃ v env', YieldsIf P ops (fun _ => True) o v a ∧ K env' h = some r ∧ ERel m env' (a.put o.dst v) := by
  have hpure : isPureOp P o.op = true := by
    unfold isMove at hp
    split at hp
    · rename_i x hx; rw [hx]; rfl
    · rename_i x hx; rw [hx]; rfl
    · cases hp
  obtain ⟨v, env', hy, h1, h2⟩ := evStep_pure hi he (dr := true) (ops := ops) hpure hev
  refine ⟨v, env', ?_, h1, h2⟩
  rcases hy with ⟨hw, hv⟩ | hy
  · refine .inl ⟨hw, fun w' _ => ?_⟩
    have h0 := hv w (Ext.refl w)
    unfold isMove at hp
    split at hp
    · rename_i x hx; simp only [execOp, hx, Sem.run_pure] at h0 ⊢; injection h0 with h0 _; rw [h0]
    · rename_i x hx; simp only [execOp, hx, Sem.run_pure] at h0 ⊢; injection h0 with h0 _; rw [h0]
    · cases hp
  · exact .inr hy

theorem altAll_mem {P : Program} {T : FuncId → Option Summ} {all : List Oper} {env : Env} {h : Heap} {K : Env → Heap → Option Res} {r : Res} : ∀ {l : List (Option PT)} {t : PT}, altAll l = some t →
    ∀ x ∈ l, ∃ u, x = some u ∧ (evPT P T all t env h K = some r → evPT P T all u env h K = some r)
  | [], t, h0, x, hx => by cases hx
  | [y], t, h0, x, hx => by
    simp only [altAll] at h0
    simp only [List.mem_singleton] at hx
    exact ⟨t, hx.trans h0, id⟩
  | y :: z :: l, t, h0, x, hx => by
    cases y with
    | none => simp only [altAll] at h0; cases h0
    | some a =>
      cases hb : altAll (z :: l) with
      | none => simp only [altAll, hb] at h0; cases h0
      | some b =>
        simp only [altAll, hb] at h0
        cases h0
        rcases List.mem_cons.1 hx with rfl | hx
        · exact ⟨a, rfl, fun h => (amb_some (by simpa only [evPT] using h)).1⟩
        · obtain ⟨u, h1, h2⟩ := altAll_mem (P := P) (T := T) (all := all) (env := env) (h := h) (K := K) (r := r) hb x hx
          exact ⟨u, h1, fun h => h2 (amb_some (by simpa only [evPT] using h)).2⟩

/-- The walks serve all orders. -/
theorem planGo_sound (hT : SoundT P T) {ops : Array Oper} {Q : Act → World → Prop} {K : Env → Heap → Option Res} (hsel : Region.noSelect ops = true) :
    ∀ (fuel : Nat) (listed : Array Bool) (l : PT), planGo P ops fuel listed = some l → Closed ops listed →
      ∀ {m : GM} {h : Heap} {w : World} {a : Act} {env : Env}, Inv G m h w → ERel m env a → evPT P T ops.toList l env h K = some r →
        (∀ env' h' m' a' w', K env' h' = some r → Inv G m' h' w' → Pre m m' → ERel m' env' a' → Q a' w') → wpAnyE P ops (fun e a w => e = .normal ∧ Q a w) fuel listed a w := by
  intro fuel
  induction fuel with
  | zero =>
    intro listed l hp hc m h w a env hi he hev hq
    simp only [planGo] at hp
    split at hp
    · rename_i hr
      cases hp
      exact ⟨by simpa using hr, rfl, hq _ _ _ _ _ hev hi (Pre.refl _) he⟩
    · cases hp
  | succ f ih =>
    intro listed l hp hc m h w a env hi he hev hq
    simp only [planGo] at hp
    split at hp
    · rename_i i hfind
      have hir : i ∈ Region.ready .any ops listed := List.mem_of_find?_eq_some hfind
      have htk := List.find?_some hfind
      obtain ⟨_, oi, hoi, _⟩ := mem_ready.1 hir
      split at hp
      · rename_i t ht
        cases hp
        unfold takeable at htk
        simp only [hoi, Bool.and_eq_true, Bool.or_eq_true] at htk
        simp only [evPT, show ops.toList[i]? = some oi by simpa using hoi] at hev
        rcases htk.2 with hmv | hlast
        · obtain ⟨v, env', hy, hev', he'⟩ := evStep_move he hmv hi hev
          have := ih _ _ ht (hc.set hir) hi he' hev' hq
          exact wpAnyE_first0 hoi (fun j o cs b ho => Region.noSelect_spec hsel j o cs b ho) (fun c a w hh => by cases hh.1) f listed _ _
            (fun j oj hj hji hun hno => Region.free_spec hoi htk.1.2 j oj hj hji hun hno) hir hy this
        · obtain ⟨v, env', hy, hev', he'⟩ := evStep_pure hi he htk.1.1 hev
          have := ih _ _ ht (hc.set hir) hi he' hev' hq
          exact wpAnyE_first hoi (fun j o cs b ho => Region.noSelect_spec hsel j o cs b ho) (fun c a w hh => by cases hh.1) ops.size f listed _ _
            (fun j oj hj hji hun hno => Region.free_spec hoi htk.1.2 j oj hj hji hun hno) hc
            (fun d od hd hne hl hun => lastB_spec hlast d od hd hne hl hun) hir hy (Ext.refl _) this
      · cases hp
    · refine ⟨fun h0 => (by rw [h0] at hp; cases hp), fun j hj => ?_⟩
      obtain ⟨_, oi, hoi, _⟩ := mem_ready.1 hj
      obtain ⟨u, hu, hev'⟩ := altAll_mem (P := P) (T := T) (all := ops.toList) (env := env) (h := h) (K := K) (r := r) hp _ (List.mem_map.2 ⟨j, hj, rfl⟩)
      have hev := hev' hev
      split at hu
      · rename_i t ht
        cases hu
        simp only [evPT, show ops.toList[j]? = some oi by simpa using hoi] at hev
        have hs := evStep_wp hT hi he (ops := ops) (Q := fun e a w => e = .normal ∧ Q a w)
          (next := fun a' w' => ((∀ o, ops[j]? = some o → isLast P o = false) → Ext w w') ∧ wpAnyE P ops (fun e a w => e = .normal ∧ Q a w) f (listed.setIfInBounds j true) a' w') hev
          fun a' w' ⟨env', h', m', q1, q2, q3, q4, q5⟩ => ⟨fun ho => q5 rfl (ho _ hoi), ih _ _ ht (hc.set hj) q2 q4 q1 fun env2 h2' m2 a2 w2 p1 p2 p3 p4 => hq _ _ _ _ _ p1 p2 (q3.trans p3) p4⟩
        exact wpOp_of hoi hs
      · cases hu

theorem closed_none {ops : Array Oper} : Closed ops (Array.replicate ops.size false) := by
  intro j oj hj hl
  simp only [Array.getD_eq_getD_getElem?, Array.getElem?_replicate] at hl
  split at hl <;> simp at hl

theorem region_drawn (hm : P.follows .mixedOrders = true) (hT : SoundT P T) {ops : Array Oper} {id : Nat} {Q : Exit → Act → World → Prop} {K : Env → Heap → Option Res} {l : PT} (hp : plan P ops = some l)
    (hi : Inv G m h w) (he : ERel m env a) (hev : evPT P T ops.toList l env h K = some r)
    (hq : ∀ env' h' m' a' w', K env' h' = some r → Inv G m' h' w' → Pre m m' → ERel m' env' a' → Q .normal a' w') : (Code.region id ops true).wp P Q a w := by
  unfold plan at hp
  split at hp
  · rename_i hsel
    have := planGo_sound hT (Q := Q .normal) (K := K) (r := r) (G := G) hsel _ _ _ hp closed_none (hi.ext (Ext.drew w)) he hev hq
    refine wp_mono (wp_region_any hm (wpAny_of_E _ _ _ _ this)) ?_
    rintro e a w ⟨rfl, hq'⟩
    exact hq'
  · cases hp

end
end Go.Proofs.Ytillbabmlfjegaa.Ev
end

section
/- The evaluator is sound, sixteenth part: code, loops, functions. -/
namespace Go.Proofs.Ytillbabmlfjegaa.Ev
open Go
set_option linter.unusedVariables false

variable {P : Program}

def exitOf : Xt → Exit
  | .normal => .normal
  | .exit i => .exit i
  | .goto l => .goto l
  | .ret => .ret

/-- The first n0 objects stand as they stood. -/
def Pin (n0 : Nat) (m m' : GM) : Prop := n0 ≤ m'.length ∧ ∀ i, i < n0 → m'[i]? = m[i]?

theorem Pin.refl {n0 : Nat} {m : GM} (h : n0 ≤ m.length) : Pin n0 m m := ⟨h, fun _ _ => rfl⟩
theorem Pin.trans {n0 : Nat} {a b c : GM} (h : Pin n0 a b) (k : Pin n0 b c) : Pin n0 a c := ⟨k.1, fun i hi => (k.2 i hi).trans (h.2 i hi)⟩
theorem Pin.of_pre {n0 : Nat} {m m' : GM} (h : n0 ≤ m.length) (p : Pre m m') : Pin n0 m m' := by
  have hg : ∀ i, i < n0 → m'[i]? = m[i]? := fun i hi => by
    have hm : m[i]? = some (m[i]'(by omega)) := List.getElem?_eq_getElem _
    rw [hm]; exact p i _ hm
  refine ⟨?_, hg⟩
  cases n0 with
  | zero => omega
  | succ n =>
    have h1 := hg n (by omega)
    rcases Nat.lt_or_ge n m'.length with h2 | h2
    · exact h2
    · rw [List.getElem?_eq_none h2, List.getElem?_eq_getElem (by omega)] at h1; cases h1

/-- What is known of some slots. -/
def SlotsRel (m : GM) (a : Act) : List Nat → List AV → Prop
  | s :: ss, v :: vs => (isTop v ∨ AVRel m v (a.tmps.getD s undef)) ∧ SlotsRel m a ss vs
  | _, _ => True

theorem eget_topEnv (n i : Nat) : eget (topEnv n) i = .top := by
  induction n generalizing i with
  | zero => rfl
  | succ n ih => cases i with
    | zero => rfl
    | succ i => exact ih i

theorem topEnv_length (n : Nat) : (topEnv n).length = n := by
  induction n with
  | zero => rfl
  | succ n ih => simp [topEnv, ih]

theorem mkEnv_length (n : Nat) : ∀ (ss : List Nat) (vs : List AV), (mkEnv n ss vs).length = n
  | [], vs => by cases vs <;> simp [mkEnv, topEnv_length]
  | s :: ss, [] => by simp [mkEnv, topEnv_length]
  | s :: ss, v :: vs => by simp only [mkEnv, eset_length]; exact mkEnv_length n ss vs

theorem mkEnv_rel {m : GM} {a : Act} {n : Nat} (hn : n ≤ a.tmps.size) (hd : a.defers = []) : ∀ (ss : List Nat) (vs : List AV), SlotsRel m a ss vs → ERel m (mkEnv n ss vs) a := by
  have base : ERel m (topEnv n) a := ⟨by rw [topEnv_length]; exact hn, hd, fun i => by rw [eget_topEnv]; exact .inl trivial⟩
  intro ss
  induction ss with
  | nil => intro vs _; cases vs <;> exact base
  | cons s ss ih =>
    intro vs hs
    cases vs with
    | nil => exact base
    | cons v vs =>
      have he := ih vs hs.2
      refine ⟨by rw [mkEnv_length]; exact hn, hd, fun i => ?_⟩
      simp only [mkEnv]
      by_cases hi : s = i
      · subst hi
        by_cases hl : s < (mkEnv n ss vs).length
        · rw [eget_eset_same hl]; exact hs.1
        · rw [eget_out (by rw [eset_length]; exact Nat.le_of_not_lt hl)]; exact .inl trivial
      · rw [eget_eset_ne hi]; exact he.val i

theorem getAll_rel {m : GM} {env : Env} {a : Act} (he : ERel m env a) : ∀ ss, SlotsRel m a ss (getAll env ss)
  | [] => trivial
  | s :: ss => ⟨he.val s, getAll_rel he ss⟩

theorem tvsOf_rel {m : GM} {a : Act} : ∀ {ss : List Nat} {avs : List AV} {vs : List TV}, avs.length = ss.length → SlotsRel m a ss avs → tvsOf avs = some vs → TVs m vs (ss.map fun s => a.tmps.getD s undef)
  | [], [], vs, _, _, h => by cases h; trivial
  | s :: ss, [], vs, hl, _, h => by simp at hl
  | [], v :: avs, vs, hl, _, h => by simp at hl
  | s :: ss, v :: avs, vs, hl, hs, h => by
    unfold tvsOf at h
    split at h
    · cases h; rename_i heq; cases heq
    · cases h
    · rename_i x r hne heq
      cases heq
      split at h
      · rename_i l hl'
        cases h
        refine ⟨?_, tvsOf_rel (by simpa using hl) hs.2 hl'⟩
        rcases hs.1 with ht | ht
        · match x, ht, hne with
          | .lf .top, _, hne => exact (hne rfl).elim
        · exact ht
      · cases h
    · cases h

theorem getAll_length (env : Env) : ∀ ss, (getAll env ss).length = ss.length
  | [] => rfl
  | s :: ss => by simp [getAll, getAll_length env ss]

theorem avsOf_rel {m : GM} {a : Act} : ∀ {ss : List Nat} {vs : List TV}, TVs m vs (ss.map fun s => a.tmps.getD s undef) → SlotsRel m a ss (avsOf vs)
  | [], [], _ => trivial
  | s :: ss, [], h => h.elim
  | [], v :: vs, h => h.elim
  | s :: ss, v :: vs, h => ⟨.inr h.1, avsOf_rel h.2⟩

section
variable {T : FuncId → Option Summ} {nt n0 : Nat} {LT : Nat → Option LoopS}

/-- A loop's summary holds: it is reached from below by summaries of which each is one round more. -/
def LoopOK (P : Program) (T : FuncId → Option Summ) (nt n0 : Nat) (LT : Nat → Option LoopS) (S : LoopS) (b : Code) : Prop :=
  ∃ g : Nat → LoopS, (∀ k, (g k).live = S.live ∧ (g k).out = S.out) ∧
    (∀ vs h K r, S.run vs h K = some r → ∃ n, (g n).run vs h K = some r) ∧
    (∀ vs h K, (g 0).run vs h K = none) ∧
    ∀ k vs h K r, (g (k + 1)).run vs h K = some r → roundOf P T nt n0 LT (g k) b vs h K = some r

def loopsOf : Code → List Code
  | .seq a b => loopsOf a ++ loopsOf b
  | .cond _ a b => loopsOf a ++ loopsOf b
  | .block _ a => loopsOf a
  | .loop a => a :: loopsOf a
  | .scope a => loopsOf a
  | _ => []

def LoopsOK (P : Program) (T : FuncId → Option Summ) (nt n0 : Nat) (LT : Nat → Option LoopS) (l : List Code) : Prop :=
  ∀ b ∈ l, ∀ S, LT (firstRegion b) = some S → LoopOK P T nt n0 LT S b

variable {G : Ctx} {r : Res}

/-- A label's summary holds: each is one pass more, and the code from the label on is walked soundly. -/
def LabelOK (P : Program) (T : FuncId → Option Summ) (nt n0 : Nat) (LT : Nat → Option LoopS) (S : LoopS) (l : Nat) (b : Code) : Prop :=
  ∃ (g : Nat → LoopS) (rest : Code), findLabel b l = some rest ∧ (∀ k, (g k).live = S.live ∧ (g k).out = S.out) ∧
    (∀ vs h K r, S.run vs h K = some r → ∃ n, (g n).run vs h K = some r) ∧
    (∀ vs h K, (g 0).run vs h K = none) ∧
    (∀ k vs h K r, (g (k + 1)).run vs h K = some r → passOf P T nt n0 LT (g k) l rest vs h K = some r) ∧
    (∀ {G : Ctx} {r : Res} {Q : Exit → Act → World → Prop} {m : GM} {h : Heap} {w : World} {a : Act} {env : Env} {K : Xt → Env → Heap → Option Res}, n0 ≤ m.length → Inv G m h w → ERel m env a →
      evC P T nt n0 LT rest env h K = some r → (∀ e env' h' m' a' w', K e env' h' = some r → Inv G m' h' w' → Pin n0 m m' → ERel m' env' a' → Q (exitOf e) a' w') → rest.wp P Q a w)

def scopesOf : Code → List Code
  | .seq a b => scopesOf a ++ scopesOf b
  | .cond _ a b => scopesOf a ++ scopesOf b
  | .block _ a => scopesOf a
  | .loop a => scopesOf a
  | .scope a => a :: scopesOf a
  | _ => []

def ScopesOK (P : Program) (T : FuncId → Option Summ) (nt n0 : Nat) (LT : Nat → Option LoopS) (l : List Code) : Prop :=
  ∀ b ∈ l, ∀ i S, labelIn b = some i → LT (lkey i) = some S → LabelOK P T nt n0 LT S i b

/-- Behind a piece of code. -/
def After (G : Ctx) (m : GM) (n0 : Nat) (K : Xt → Env → Heap → Option Res) (r : Res) (Q : Exit → Act → World → Prop) : Prop :=
  ∀ e env' h' m' a' w', K e env' h' = some r → Inv G m' h' w' → Pin n0 m m' → ERel m' env' a' → Q (exitOf e) a' w'

theorem loopIn_sound {S : LoopS} {m : GM} {h : Heap} {w : World} {a : Act} {env : Env} {K : Xt → List AV → Heap → Option Res} (hn0 : n0 ≤ m.length) (hi : Inv G m h w) (he : ERel m env a)
    (hev : loopIn nt n0 S env h K = some r) :
    ∃ vs' h' m', S.run vs' h' K = some r ∧ Inv G m' h' w ∧ Pin n0 m m' ∧ TVs m' vs' (S.live.map fun s => a.tmps.getD s undef) ∧ nt ≤ a.tmps.size := by
  unfold loopIn at hev
  split at hev
  · rename_i hle
    split at hev
    · rename_i vs hvs
      have hx := tvsOf_rel (getAll_length env S.live) (getAll_rel he S.live) hvs
      rw [normF_eq] at hev
      obtain ⟨vs', h', m', h1, h2, h3, h4, h5⟩ := normVs_sound hi hn0 hx hev
      exact ⟨vs', h', m', h1, h2, ⟨h4, h5⟩, h3, Nat.le_trans (Nat.le_of_ble_eq_true hle) he.len⟩
    · cases hev
  · cases hev

/-- Rounds of a loop. -/
theorem rounds_sound {b : Code} {Q : Exit → Act → World → Prop} {g : Nat → LoopS} {K : Xt → List AV → Heap → Option Res} {live : List Nat} {out : Xt → List Nat}
    (hg : ∀ k, (g k).live = live ∧ (g k).out = out) (h0 : ∀ vs h K, (g 0).run vs h K = none)
    (hs : ∀ k vs h K r, (g (k + 1)).run vs h K = some r → roundOf P T nt n0 LT (g k) b vs h K = some r)
    (ih : ∀ {Q : Exit → Act → World → Prop} {m : GM} {h : Heap} {w : World} {a : Act} {env : Env} {K : Xt → Env → Heap → Option Res}, n0 ≤ m.length → Inv G m h w → ERel m env a →
      evC P T nt n0 LT b env h K = some r → After G m n0 K r Q → b.wp P Q a w) :
    ∀ (n : Nat) {m : GM} {h : Heap} {w : World} {a : Act} {vs : List TV}, n0 ≤ m.length → Inv G m h w → nt ≤ a.tmps.size → a.defers = [] → TVs m vs (live.map fun s => a.tmps.getD s undef) →
      (g n).run vs h K = some r →
      (∀ e avs h' m' a' w', K e avs h' = some r → Inv G m' h' w' → Pin n0 m m' → nt ≤ a'.tmps.size → a'.defers = [] → SlotsRel m' a' (out e) avs → Q (exitOf e) a' w') →
      Code.rounds P b Q n a w := by
  intro n
  induction n with
  | zero => intro m h w a vs _ _ _ _ _ hrun; rw [h0] at hrun; cases hrun
  | succ n ihn =>
    intro m h w a vs hn0 hi hnt hd hx hrun hq
    have hr := hs _ _ _ _ _ hrun
    unfold roundOf at hr
    rw [frcAs_eq] at hr
    rw [(hg n).1] at hr
    rw [rounds_succ]
    refine ih hn0 hi (mkEnv_rel hnt hd live _ (avsOf_rel hx)) hr ?_
    intro e env' h' m' a' w' hK hi' hp he'
    have leave : ∀ {e : Xt}, loopOut nt (g n) e env' h' K = some r → Q (exitOf e) a' w' := by
      intro e hK
      unfold loopOut at hK
      split at hK
      · rename_i hle
        rw [(hg n).2] at hK
        exact hq _ _ _ _ _ _ hK hi' hp (Nat.le_trans (Nat.le_of_ble_eq_true hle) he'.len) he'.dfr (getAll_rel he' (out _))
      · cases hK
    cases e with
    | normal =>
      obtain ⟨vs', h2, m2, h3, h4, h5, h6, h7⟩ := loopIn_sound (hp.1) hi' he' hK
      rw [(hg n).1] at h6
      exact ihn h5.1 h4 h7 he'.dfr h6 h3 fun e avs h3 m3 a3 w3 q1 q2 q3 => hq e avs h3 m3 a3 w3 q1 q2 (hp.trans (h5.trans q3))
    | exit i => exact leave hK
    | goto i => exact leave hK
    | ret => exact leave hK

theorem least {p : Nat → Prop} (h : ∃ n, p n) : ∃ n, p n ∧ ∀ k, p k → n ≤ k := by
  obtain ⟨n, hn⟩ := h
  induction n using Nat.strongRecOn with
  | _ n ih =>
    by_cases hk : ∃ k, k < n ∧ p k
    · obtain ⟨k, h1, h2⟩ := hk
      exact ih k h1 h2
    · exact ⟨n, hn, fun k h => Nat.le_of_not_lt fun hlt => hk ⟨k, hlt, h⟩⟩

open Classical in
/-- Passes from a label on. -/
theorem passes_sound {b rest : Code} {l : Nat} {Q : Exit → Act → World → Prop} {g : Nat → LoopS} {K : Xt → List AV → Heap → Option Res} {live : List Nat} {out : Xt → List Nat} {m0 : GM}
    (hf : findLabel b l = some rest) (hg : ∀ k, (g k).live = live ∧ (g k).out = out) (h0 : ∀ vs h K, (g 0).run vs h K = none)
    (hs : ∀ k vs h K r, (g (k + 1)).run vs h K = some r → passOf P T nt n0 LT (g k) l rest vs h K = some r)
    (ih : ∀ {Q : Exit → Act → World → Prop} {m : GM} {h : Heap} {w : World} {a : Act} {env : Env} {K : Xt → Env → Heap → Option Res}, n0 ≤ m.length → Inv G m h w → ERel m env a →
      evC P T nt n0 LT rest env h K = some r → After G m n0 K r Q → rest.wp P Q a w)
    (hq : ∀ e avs h' m' a' w', K e avs h' = some r → Inv G m' h' w' → Pin n0 m0 m' → nt ≤ a'.tmps.size → a'.defers = [] → SlotsRel m' a' (out e) avs → (∀ i, e ≠ .goto i) → Q (exitOf e) a' w')
    {a : Act} {w : World}
    (first : b.wp P (Exit.jump l (fun a w => ∃ n m h vs, (g n).run vs h K = some r ∧ n0 ≤ m.length ∧ Inv G m h w ∧ Pin n0 m0 m ∧ nt ≤ a.tmps.size ∧ a.defers = [] ∧ TVs m vs (live.map fun s => a.tmps.getD s undef)) Q) a w) :
    (Code.scope b).wp P Q a w := by
  let Jn : Nat → Act → World → Prop := fun n a w => ∃ m h vs, (g n).run vs h K = some r ∧ n0 ≤ m.length ∧ Inv G m h w ∧ Pin n0 m0 m ∧ nt ≤ a.tmps.size ∧ a.defers = [] ∧ TVs m vs (live.map fun s => a.tmps.getD s undef)
  let J : Act → World → Prop := fun a w => ∃ n, Jn n a w
  let mu : Act → World → Nat := fun a w => if hJ : J a w then Classical.choose (least hJ) else 0
  refine wp_scope_jumps l J mu hf (wp_mono first ?_) ?_
  · intro e a w hh
    cases e with
    | goto i => exact ⟨hh.1, hh.2⟩
    | _ => exact hh
  · intro a w hJ
    have hmin := (Classical.choose_spec (least hJ)).1
    have hmu : mu a w = Classical.choose (least hJ) := dif_pos hJ
    obtain ⟨m, h, vs, hrun, hn0, hi, hpin, hnt, hd, hx⟩ := hmin
    cases hk : Classical.choose (least hJ) with
    | zero => rw [hk, h0] at hrun; cases hrun
    | succ k =>
      rw [hk] at hrun hmu
      have hr := hs _ _ _ _ _ hrun
      unfold passOf at hr
      rw [frcAs_eq, (hg k).1] at hr
      refine ih hn0 hi (mkEnv_rel hnt hd live _ (avsOf_rel hx)) hr ?_
      intro e env' h' m' a' w' hK hi' hp he'
      have leave : ∀ {e : Xt}, (∀ i, e ≠ .goto i) → loopOut nt (g k) e env' h' K = some r → Q (exitOf e) a' w' := by
        intro e hne hK
        unfold loopOut at hK
        split at hK
        · rename_i hle
          rw [(hg k).2] at hK
          exact hq _ _ _ _ _ _ hK hi' (hpin.trans hp) (Nat.le_trans (Nat.le_of_ble_eq_true hle) he'.len) he'.dfr (getAll_rel he' (out _)) hne
        · cases hK
      cases e with
      | normal => exact leave (by intro i h; cases h) hK
      | exit i => exact leave (by intro j h; cases h) hK
      | ret => exact leave (by intro i h; cases h) hK
      | goto i =>
        simp only at hK
        split at hK
        · rename_i hil
          subst hil
          obtain ⟨vs', h2, m2, h3, h4, h5, h6, h7⟩ := loopIn_sound hp.1 hi' he' hK
          rw [(hg k).1] at h6
          have hJk : Jn k a' w' := ⟨m2, h2, vs', h3, h5.1, h4, hpin.trans (hp.trans h5), h7, he'.dfr, h6⟩
          have hJ' : J a' w' := ⟨k, hJk⟩
          refine ⟨rfl, hJ', ?_⟩
          have e1 : mu a' w' = Classical.choose (least hJ') := dif_pos hJ'
          have e2 : Classical.choose (least hJ') ≤ k := (Classical.choose_spec (least hJ')).2 k hJk
          show mu a' w' < mu a w
          omega
        · cases hK

theorem evC_wp (hm : P.follows .mixedOrders = true) (hT : SoundT P T) : ∀ (c : Code), LoopsOK P T nt n0 LT (loopsOf c) → ScopesOK P T nt n0 LT (scopesOf c) →
    ∀ {Q : Exit → Act → World → Prop} {m : GM} {h : Heap} {w : World} {a : Act} {env : Env} {K : Xt → Env → Heap → Option Res}, n0 ≤ m.length → Inv G m h w → ERel m env a →
      evC P T nt n0 LT c env h K = some r → After G m n0 K r Q → c.wp P Q a w := by
  intro c
  induction c with
  | skip => intro hl hc Q m h w a env K hn hi he hev hq; exact wp_skip (hq _ _ _ _ _ _ hev hi (Pin.refl hn) he)
  | region id ops dr =>
    intro hl hc Q m h w a env K hn hi he hev hq
    cases dr with
    | false =>
      simp only [evC] at hev
      exact wp_region_list (evOps_wp hT ops.toList hi he hev fun env' h' m' a' w' q1 q2 q3 q4 => hq _ _ _ _ _ _ q1 q2 (Pin.of_pre hn q3) q4)
    | true =>
      simp only [evC] at hev
      split at hev
      · rename_i l hp
        exact region_drawn hm hT hp hi he hev fun env' h' m' a' w' q1 q2 q3 q4 => hq _ _ _ _ _ _ q1 q2 (Pin.of_pre hn q3) q4
      · cases hev
  | seq x y ihx ihy =>
    intro hl hc Q m h w a env K hn hi he hev hq
    simp only [evC] at hev
    refine wp_seq (ihx (fun b hb => hl b (by simp [loopsOf, hb])) (fun b hb => hc b (by simp [scopesOf, hb])) hn hi he hev ?_)
    intro e env' h' m' a' w' hK hi' hp he'
    cases e with
    | normal => exact ihy (fun b hb => hl b (by simp [loopsOf, hb])) (fun b hb => hc b (by simp [scopesOf, hb])) hp.1 hi' he' hK fun e2 env2 h2 m2 a2 w2 q1 q2 q3 q4 => hq _ _ _ _ _ _ q1 q2 (hp.trans q3) q4
    | exit i => exact hq (.exit i) _ _ _ _ _ hK hi' hp he'
    | goto i => exact hq (.goto i) _ _ _ _ _ hK hi' hp he'
    | ret => exact hq .ret _ _ _ _ _ hK hi' hp he'
  | cond c x y ihx ihy =>
    intro hl hc Q m h w a env K hn hi he hev hq
    simp only [evC] at hev
    split at hev
    · rename_i t ht
      have hcv : a.eval c = .bool t := opd_rel he ht
      refine wp_cond hcv ?_
      cases t with
      | true => exact ihx (fun b hb => hl b (by simp [loopsOf, hb])) (fun b hb => hc b (by simp [scopesOf, hb])) hn hi he hev hq
      | false => exact ihy (fun b hb => hl b (by simp [loopsOf, hb])) (fun b hb => hc b (by simp [scopesOf, hb])) hn hi he hev hq
    · cases hev
  | block id b ih =>
    intro hl hc Q m h w a env K hn hi he hev hq
    simp only [evC] at hev
    refine wp_block (ih hl hc hn hi he hev ?_)
    intro e env' h' m' a' w' hK hi' hp he'
    cases e with
    | normal => exact hq .normal _ _ _ _ _ hK hi' hp he'
    | exit j =>
      simp only at hK
      simp only [exitOf, Exit.inBlock]
      split at hK
      · rename_i hj; rw [if_pos hj]; exact hq .normal _ _ _ _ _ hK hi' hp he'
      · rename_i hj; rw [if_neg hj]; exact hq (.exit j) _ _ _ _ _ hK hi' hp he'
    | goto i => exact hq (.goto i) _ _ _ _ _ hK hi' hp he'
    | ret => exact hq .ret _ _ _ _ _ hK hi' hp he'
  | loop b ih =>
    intro hl hc Q m h w a env K hn hi he hev hq
    simp only [evC] at hev
    split at hev
    · rename_i S hS
      obtain ⟨g, hg, h1, h2, h3⟩ := hl b (by simp [loopsOf]) S hS
      obtain ⟨vs', h', m', q1, q2, q3, q4, q5⟩ := loopIn_sound hn hi he hev
      obtain ⟨n, hrun⟩ := h1 _ _ _ _ q1
      refine wp_loop_rounds n (rounds_sound (live := S.live) (out := S.out) hg h2 h3 (ih (fun b' hb => hl b' (by simp [loopsOf, hb])) (fun b' hb => hc b' (by simpa [scopesOf] using hb))) n q3.1 q2 q5 he.dfr q4 hrun ?_)
      intro e avs h'' m'' a'' w'' p1 p2 p3 p4 p5 p6
      rw [frcAs_eq, frcH_eq] at p1
      exact hq _ _ _ _ _ _ p1 p2 (q3.trans p3) (mkEnv_rel p4 p5 _ _ p6)
    · cases hev
  | rangeFunc f ps x y ihx ihy => intro hl hc Q m h w a env K hn hi he hev hq; simp only [evC] at hev; cases hev
  | exit id => intro hl hc Q m h w a env K hn hi he hev hq; exact wp_exit (hq (.exit id) _ _ _ _ _ hev hi (Pin.refl hn) he)
  | scope b ih =>
    intro hl hc Q m h w a env K hn hi he hev hq
    simp only [evC] at hev
    have ihb : ∀ {Q : Exit → Act → World → Prop} {K : Xt → Env → Heap → Option Res}, evC P T nt n0 LT b env h K = some r → After G m n0 K r Q → b.wp P Q a w :=
      fun hev hq => ih (fun b' hb => hl b' (by simpa [loopsOf] using hb)) (fun b' hb => hc b' (by simp [scopesOf, hb])) hn hi he hev hq
    by_cases hex : ∃ l S, labelIn b = some l ∧ LT (lkey l) = some S
    · obtain ⟨l, S, hlab, hS⟩ := hex
      obtain ⟨g, rest, hf, hg, h1, h2, h3, h4⟩ := hc b (by simp [scopesOf]) l S hlab hS
      refine passes_sound (G := G) (r := r) (m0 := m) (live := S.live) (out := S.out) (K := fun e vs' h' => frcAs (mkEnv nt (S.out e) vs') fun env => frcH h' fun h' => K e env h') hf hg h2 h3 h4 ?_ ?_
      · intro e avs h'' m'' a'' w'' p1 p2 p3 p4 p5 p6 p7
        rw [frcAs_eq, frcH_eq] at p1
        exact hq _ _ _ _ _ _ p1 p2 p3 (mkEnv_rel p4 p5 _ _ p6)
      · refine ihb hev ?_
        intro e env' h' m' a' w' hK hi' hp he'
        cases e with
        | normal => exact hq .normal _ _ _ _ _ hK hi' hp he'
        | exit i => exact hq (.exit i) _ _ _ _ _ hK hi' hp he'
        | ret => exact hq .ret _ _ _ _ _ hK hi' hp he'
        | goto i =>
          simp only at hK
          split at hK
          · cases hK
          · rename_i hli
            have hil : l = i := Option.some.inj (hlab.symm.trans (Classical.not_not.1 hli))
            subst hil
            rw [hS] at hK
            obtain ⟨vs', h2', m2, q1, q2, q3, q4, q5⟩ := loopIn_sound hp.1 hi' he' hK
            obtain ⟨n, hn'⟩ := h1 _ _ _ _ q1
            exact ⟨rfl, n, m2, h2', vs', hn', q3.1, q2, hp.trans q3, q5, he'.dfr, q4⟩
    · refine wp_scope_straight (ihb hev ?_)
      intro e env' h' m' a' w' hK hi' hp he'
      cases e with
      | normal => exact hq .normal _ _ _ _ _ hK hi' hp he'
      | exit i => exact hq (.exit i) _ _ _ _ _ hK hi' hp he'
      | ret => exact hq .ret _ _ _ _ _ hK hi' hp he'
      | goto i =>
        simp only at hK
        split at hK
        · cases hK
        · rename_i hli
          split at hK
          · rename_i S' hS'
            exact (hex ⟨i, S', Classical.not_not.1 hli, hS'⟩).elim
          · cases hK
  | label l => intro hl hc Q m h w a env K hn hi he hev hq; exact wp_label (hq .normal _ _ _ _ _ hev hi (Pin.refl hn) he)
  | goto l => intro hl hc Q m h w a env K hn hi he hev hq; exact wp_goto (hq (.goto l) _ _ _ _ _ hev hi (Pin.refl hn) he)
  | ret => intro hl hc Q m h w a env K hn hi he hev hq; exact wp_ret (hq .ret _ _ _ _ _ hev hi (Pin.refl hn) he)
  | refuse s => intro hl hc Q m h w a env K hn hi he hev hq; simp only [evC] at hev; cases hev

/-! ### Functions -/

def resGet (a : Act) : ResultVar → Sem Value
  | .tmp t => pure (a.tmps.getD t undef)
  | .cell x t => do loadVar t (← asAddr (a.tmps.getD x undef))

theorem resVals_list {m : GM} {h : Heap} {w : World} {a : Act} {env : Env} (hi : Inv G m h w) (he : ERel m env a) : ∀ (l : List ResultVar) (vs : List TV), resVals P env h l = some vs →
    ∃ xs, TVs m vs xs ∧ (l.mapM (resGet a)).run P w = .ok xs w
  | [], vs, hv => by cases hv; exact ⟨[], trivial, by simp [List.mapM_nil]⟩
  | .tmp t :: l, vs, hv => by
    simp only [resVals] at hv
    split at hv
    · cases hv
    · rename_i v l' hne hx hl
      cases hv
      obtain ⟨xs, h1, h2⟩ := resVals_list hi he l _ hl
      refine ⟨a.tmps.getD t undef :: xs, ⟨?_, h1⟩, ?_⟩
      · have := he.val t
        rw [hx] at this
        rcases this with ht | ht
        · match v, ht, hne with
          | .lf .top, _, hne => exact (hne rfl).elim
        · exact ht
      · rw [List.mapM_cons]
        simp only [resGet, Sem.run_bind, Sem.run_pure, Result.andThen_ok, h2]
    · cases hv
  | .cell x t :: l, vs, hv => by
    simp only [resVals] at hv
    split at hv
    · rename_i id off hx
      split at hv
      · rename_i ob hob
        split at hv
        · rename_i es hes
          split at hv
          · rename_i v q hld hl
            cases hv
            obtain ⟨xs, h1, h2⟩ := resVals_list hi he l _ hl
            obtain ⟨g, b, hg, hb, hv'⟩ : ∃ g b, m[id]? = some g ∧ g.addr = some b ∧ a.tmps.getD x undef = .pointer (some (at_ b off)) := by
              have := he.val x
              rw [hx] at this
              exact this.resolve_left (fun h => h)
            obtain ⟨cs, hoc, hrd⟩ := hi.read hob hg hb
            obtain ⟨h3, h4⟩ := dropW_cells hes hoc
            obtain ⟨val, hval, hrun, _⟩ := ldE_run hld h4
            have := hrun b off w (fun j u hu => hrd w (Ext.refl w) (off + j) u (by rw [List.getElem?_drop] at hu; exact hu))
            refine ⟨val :: xs, ⟨hval, h1⟩, ?_⟩
            rw [List.mapM_cons]
            simp [resGet, Sem.run_bind, Result.andThen_ok, h2, hv', asAddr, this]
          · cases hv
        · cases hv
      · cases hv
    · cases hv

theorem results_of {fn : Func} {m : GM} {h : Heap} {w : World} {a : Act} {env : Env} {vs : List TV} (hi : Inv G m h w) (he : ERel m env a) (hv : resVals P env h fn.results.toList = some vs) :
    ∃ xs, TVs m vs xs ∧ (results fn a.tmps).run P w = .ok (if h : xs.toArray.size = 1 then xs.toArray[0] else .tuple xs.toArray) w := by
  obtain ⟨xs, h1, h2⟩ := resVals_list hi he _ _ hv
  refine ⟨xs, h1, ?_⟩
  have : results fn a.tmps = (do
      let ys ← fn.results.mapM (resGet a)
      pure (if h : ys.size = 1 then ys[0] else .tuple ys)) := by
    unfold results
    congr 2
  rw [this, Array.mapM_eq_mapM_toList]
  simp only [Sem.run_bind, map_eq_pure_bind, Sem.run_pure, Result.andThen_ok, h2]

theorem TVs.length_eq {m : GM} : ∀ {vs : List TV} {xs : List Value}, TVs m vs xs → vs.length = xs.length
  | [], [], _ => rfl
  | v :: vs, x :: xs, h => by simp [TVs.length_eq h.2]
  | [], _ :: _, h => h.elim
  | _ :: _, [], h => h.elim

theorem resRel_of {m : GM} {vs : List TV} {xs : List Value} (h : TVs m vs xs) : ResRel m vs (if h : xs.toArray.size = 1 then xs.toArray[0] else .tuple xs.toArray) := by
  match vs, xs, h with
  | [], [], h => exact ⟨#[], rfl, trivial⟩
  | [x], [y], h => exact h.1
  | x :: y :: r, a :: b :: s, h => exact ⟨_, by simp, h⟩
  | [x], _ :: _ :: _, h => exact h.2.elim
  | _ :: _ :: _, [y], h => exact h.2.elim

theorem eget_argEnv : ∀ (n : Nat) (vs : List TV) (i : Nat), eget (argEnv n vs) i = .top ∨ ∃ v, vs[i]? = some v ∧ eget (argEnv n vs) i = .tv v
  | 0, _, _ => .inl rfl
  | n + 1, [], 0 => .inl rfl
  | n + 1, [], i + 1 => by
    rcases eget_argEnv n [] i with h | ⟨v, h, _⟩
    · exact .inl h
    · simp at h
  | n + 1, v :: r, 0 => .inr ⟨v, rfl, rfl⟩
  | n + 1, v :: r, i + 1 => by
    rcases eget_argEnv n r i with h | ⟨v', h1, h2⟩
    · exact .inl h
    · exact .inr ⟨v', by simpa using h1, h2⟩

theorem argEnv_length : ∀ (n : Nat) (vs : List TV), (argEnv n vs).length = n
  | 0, _ => rfl
  | n + 1, [] => by simp [argEnv, argEnv_length n []]
  | n + 1, v :: r => by simp [argEnv, argEnv_length n r]

theorem TVs.get {m : GM} : ∀ {vs : List TV} {xs : List Value}, TVs m vs xs → ∀ {i : Nat} {v : TV}, vs[i]? = some v → ∃ x, xs[i]? = some x ∧ TVRel m v x
  | v :: vs, x :: xs, h, 0, _, hv => by simp only [List.getElem?_cons_zero, Option.some.injEq] at hv; subst hv; exact ⟨x, rfl, h.1⟩
  | v :: vs, x :: xs, h, i + 1, _, hv => by simpa using TVs.get h.2 (by simpa using hv)
  | [], [], _, _, _, hv => by simp at hv
  | [], _ :: _, h, _, _, _ => h.elim
  | _ :: _, [], h, _, _, _ => h.elim

theorem argEnv_rel {m : GM} {n : Nat} {vs : List TV} {xs : List Value} (h : TVs m vs xs) : ERel m (argEnv n vs) { tmps := xs.toArray ++ Array.replicate (n - xs.toArray.size) undef, defers := [] } := by
  refine ⟨by rw [argEnv_length]; simp; omega, rfl, fun i => ?_⟩
  rcases eget_argEnv n vs i with h1 | ⟨v, h1, h2⟩
  · rw [h1]; exact .inl trivial
  · rw [h2]
    obtain ⟨x, hx, hr⟩ := h.get h1
    refine .inr ?_
    have hlt := (List.getElem?_eq_some_iff.1 hx).1
    simp only [Array.getD_eq_getD_getElem?]
    rw [Array.getElem?_append_left (by simpa using hlt)]
    simp only [List.getElem?_toArray, hx, Option.getD_some]
    exact hr

/-- A function's body, walked. -/
theorem evBody_sound (hm : P.follows .mixedOrders = true) (hT : SoundT P T) {f : FuncId} {fn : Func} {c : Code} (hf : P.funcs[f]? = some fn) (hb : fn.body = some c) (hl : LoopsOK P T fn.ntmps n0 LT (loopsOf c)) (hsc : ScopesOK P T fn.ntmps n0 LT (scopesOf c))
    {vs : List TV} {h : Heap} (hn0 : h.length = n0) {K : List TV → Heap → Option Res} {r : Res} (hev : evBody P T fn.ntmps n0 LT c fn.results.toList vs h K = some r) {G : Ctx} {m : GM} {w : World} {xs : List Value}
    (hi : Inv G m h w) (hx : TVs m vs xs) :
    Calls P f xs.toArray w fun e w' => ∃ rs h', K rs h' = some r ∧ ∃ v t, e = .returned v ∧ ResRel (m ++ t) rs v ∧ Inv G (m ++ t) h' w' := by
  refine calls_of_wp hf hb ?_
  have hlen : m.length = n0 := hi.len.trans hn0
  unfold evBody at hev
  rw [frcAs_eq] at hev
  refine evC_wp hm hT c hl hsc (Nat.le_of_eq hlen.symm) hi (argEnv_rel hx) hev ?_
  intro e env' h' m' a' w' hK hi' hp he'
  have fin : ∀ {q : Option (List TV)}, resVals P env' h' fn.results.toList = q → (match q with | some vs => normF n0 vs h' K | none => none) = some r →
      a'.defers = [] ∧ ∃ v, (results fn a'.tmps).run P w' = .ok v w' ∧ ∃ rs h', K rs h' = some r ∧ ∃ v' t, Ending.returned v = .returned v' ∧ ResRel (m ++ t) rs v' ∧ Inv G (m ++ t) h' w' := by
    intro q hq hk
    cases q with
    | none => cases hk
    | some vs1 =>
      obtain ⟨xs1, h1, h2⟩ := results_of (fn := fn) hi' he' hq
      simp only [normF_eq] at hk
      obtain ⟨rs, h3, m3, q1, q2, q3, q4, q5⟩ := normVs_sound hi' hp.1 h1 hk
      have hpre : m3 = m ++ m3.drop n0 := by
        apply List.ext_getElem?
        intro i
        by_cases hlt : i < n0
        · rw [List.getElem?_append_left (by omega), q5 i hlt, hp.2 i hlt]
        · rw [List.getElem?_append_right (by omega), List.getElem?_drop, hlen]
          congr 1; omega
      refine ⟨he'.dfr, _, h2, rs, h3, q1, _, m3.drop n0, rfl, ?_, ?_⟩
      · rw [← hpre]; exact resRel_of q3
      · rw [← hpre]; exact q2
  cases e with
  | normal => exact fin rfl hK
  | ret => exact fin rfl hK
  | exit i => cases hK
  | goto i => cases hK

end
end Go.Proofs.Ytillbabmlfjegaa.Ev
end

section
/- The evaluator is sound, seventeenth part: shapes; summaries that are given by typed functions. -/
namespace Go.Proofs.Ytillbabmlfjegaa.Ev
open Go
set_option linter.unusedVariables false

inductive SL where
  | top
  | int (k : IntKind)
  | bool
  | str
  | nilp
  | nils (k : Option EK)
  | ptr (id off : Nat)
  | pix (id off o2 : Nat)
  | full (id : Nat)
  | slice (id off : Nat)
  | sliceC (id off : Nat)
  | seq (k : EK) (n : Nat)
  | fn (f : Nat)

@[reducible] def SL.den : SL → Type
  | .int _ => Int
  | .bool => Bool
  | .str => ByteArray
  | .pix _ _ _ => Nat
  | .slice _ _ => Nat × Nat
  | .sliceC _ _ => Nat × Nat × Nat
  | .seq k _ => List k.den
  | _ => Unit

def SL.enc : (s : SL) → s.den → LV
  | .top, _ => .top
  | .int k, n => .int k n
  | .bool, b => .bool b
  | .str, s => .str s
  | .nilp, _ => .nilp
  | .nils k, _ => .nils k
  | .ptr id off, _ => .ptr id off
  | .pix id off o2, i => .pix id off i o2
  | .full id, _ => .full id
  | .slice id off, d => .slice id off d.1 d.2 none
  | .sliceC id off, d => .slice id off d.1 d.2.1 (some d.2.2)
  | .seq k n, l => .seq k n l
  | .fn f, _ => .fn f

def SL.dec : (s : SL) → LV → Option s.den
  | .top, x => match x with | .top => some () | _ => none
  | .int k, x => match x with | .int k' n => if k' = k then some n else none | _ => none
  | .bool, x => match x with | .bool b => some b | _ => none
  | .str, x => match x with | .str s => some s | _ => none
  | .nilp, x => match x with | .nilp => some () | _ => none
  | .nils k, x => match x with | .nils k' => if k' = k then some () else none | _ => none
  | .ptr id off, x => match x with | .ptr id' off' => if id' = id ∧ off' = off then some () else none | _ => none
  | .pix id off o2, x => match x with | .pix id' off' i o2' => if id' = id ∧ off' = off ∧ o2' = o2 then some i else none | _ => none
  | .full id, x => match x with | .full id' => if id' = id then some () else none | _ => none
  | .slice id off, x => match x with | .slice id' off' lo len none => if id' = id ∧ off' = off then some (lo, len) else none | _ => none
  | .sliceC id off, x => match x with | .slice id' off' lo len (some c) => if id' = id ∧ off' = off then some (lo, len, c) else none | _ => none
  | .seq k n, x => match x with | .seq k' n' l => if h : k' = k then (if n' = n then some (castL h l) else none) else none | _ => none
  | .fn f, x => match x with | .fn f' => if f' = f then some () else none | _ => none

theorem SL.dec_enc : ∀ (s : SL) (x : LV) (d : s.den), s.dec x = some d → x = s.enc d := by
  intro s x d h
  cases s <;> simp only [SL.dec] at h
  case top => split at h <;> first | rfl | cases h
  case int k =>
    split at h
    · rename_i k' n
      split at h
      · rename_i hk; subst hk; cases h; rfl
      · cases h
    · cases h
  case bool => split at h <;> first | (cases h; rfl) | cases h
  case str => split at h <;> first | (cases h; rfl) | cases h
  case nilp => split at h <;> first | rfl | cases h
  case nils k =>
    split at h
    · split at h
      · rename_i hk; subst hk; rfl
      · cases h
    · cases h
  case ptr id off =>
    split at h
    · split at h
      · rename_i hk; obtain ⟨rfl, rfl⟩ := hk; rfl
      · cases h
    · cases h
  case pix id off o2 =>
    split at h
    · split at h
      · rename_i hk; obtain ⟨rfl, rfl, rfl⟩ := hk; cases h; rfl
      · cases h
    · cases h
  case full id =>
    split at h
    · split at h
      · rename_i hk; subst hk; rfl
      · cases h
    · cases h
  case fn f =>
    split at h
    · split at h
      · rename_i hk; subst hk; rfl
      · cases h
    · cases h
  case slice id off =>
    split at h
    · split at h
      · rename_i hk; obtain ⟨rfl, rfl⟩ := hk; cases h; rfl
      · cases h
    · cases h
  case sliceC id off =>
    split at h
    · split at h
      · rename_i hk; obtain ⟨rfl, rfl⟩ := hk; cases h; rfl
      · cases h
    · cases h
  case seq k n =>
    split at h
    · split at h
      · rename_i hk
        subst hk
        split at h
        · rename_i hn; subst hn; cases h; rfl
        · cases h
      · cases h
    · cases h

@[reducible] def denL : List SL → Type
  | [] => Unit
  | s :: r => s.den × denL r

def encL : (l : List SL) → denL l → List LV
  | [], _ => []
  | s :: r, d => s.enc d.1 :: encL r d.2

def decL : (l : List SL) → List LV → Option (denL l)
  | [], x => match x with | [] => some () | _ => none
  | s :: r, x => match x with
    | y :: q => match s.dec y, decL r q with
      | some a, some b => some (a, b)
      | _, _ => none
    | [] => none

theorem decL_enc : ∀ (l : List SL) (x : List LV) (d : denL l), decL l x = some d → x = encL l d
  | [], x, d, h => by
    simp only [decL] at h
    split at h
    · rfl
    · cases h
  | s :: r, x, d, h => by
    simp only [decL] at h
    split at h
    · split at h
      · rename_i ha hb
        cases h
        rw [SL.dec_enc _ _ _ ha, decL_enc _ _ _ hb]; rfl
      · cases h
    · cases h

inductive ST where
  | lf (s : SL)
  | agg (l : List SL)

@[reducible] def ST.den : ST → Type
  | .lf s => s.den
  | .agg l => denL l

def ST.enc : (s : ST) → s.den → TV
  | .lf s, d => .lf (s.enc d)
  | .agg l, d => .agg (encL l d)

def ST.dec : (s : ST) → TV → Option s.den
  | .lf s, x => match x with | .lf y => s.dec y | _ => none
  | .agg l, x => match x with | .agg y => decL l y | _ => none

theorem ST.dec_enc : ∀ (s : ST) (x : TV) (d : s.den), s.dec x = some d → x = s.enc d
  | .lf s, x, d, h => by
    simp only [ST.dec] at h
    split at h
    · rw [SL.dec_enc _ _ _ h]; rfl
    · cases h
  | .agg l, x, d, h => by
    simp only [ST.dec] at h
    split at h
    · rw [decL_enc _ _ _ h]; rfl
    · cases h

@[reducible] def denT : List ST → Type
  | [] => Unit
  | s :: r => s.den × denT r

def encT : (l : List ST) → denT l → List TV
  | [], _ => []
  | s :: r, d => s.enc d.1 :: encT r d.2

def decT : (l : List ST) → List TV → Option (denT l)
  | [], x => match x with | [] => some () | _ => none
  | s :: r, x => match x with
    | y :: q => match s.dec y, decT r q with
      | some a, some b => some (a, b)
      | _, _ => none
    | [] => none

theorem decT_enc : ∀ (l : List ST) (x : List TV) (d : denT l), decT l x = some d → x = encT l d
  | [], x, d, h => by
    simp only [decT] at h
    split at h
    · rfl
    · cases h
  | s :: r, x, d, h => by
    simp only [decT] at h
    split at h
    · split at h
      · rename_i ha hb
        cases h
        rw [ST.dec_enc _ _ _ ha, decT_enc _ _ _ hb]; rfl
      · cases h
    · cases h

/-- An object: is it lent for reading (none: either), and its entries. -/
structure SO where
  ro : Option Bool
  es : List SL

@[reducible] def denRo : Option Bool → Type
  | none => Bool
  | some _ => Unit

def encRo : (o : Option Bool) → denRo o → Bool
  | none, b => b
  | some b, _ => b

def decRo : (o : Option Bool) → Bool → Option (denRo o)
  | none, b => some b
  | some true, b => match b with | true => some () | false => none
  | some false, b => match b with | true => none | false => some ()

theorem decRo_enc : ∀ (o : Option Bool) (x : Bool) (d : denRo o), decRo o x = some d → x = encRo o d
  | none, x, d, h => by cases h; rfl
  | some true, x, d, h => by cases x <;> first | rfl | (simp [decRo] at h)
  | some false, x, d, h => by cases x <;> first | rfl | (simp [decRo] at h)

@[reducible] def denH : List (Option SO) → Type
  | [] => Unit
  | none :: r => Unit × denH r
  | some o :: r => (denRo o.ro × denL o.es) × denH r

def encH : (l : List (Option SO)) → denH l → Heap
  | [], _ => []
  | none :: r, d => none :: encH r d.2
  | some o :: r, d => some ⟨encRo o.ro d.1.1, encL o.es d.1.2⟩ :: encH r d.2

def decH : (l : List (Option SO)) → Heap → Option (denH l)
  | [], x => match x with | [] => some () | _ => none
  | none :: r, x => match x with
    | none :: q => match decH r q with
      | some b => some ((), b)
      | none => none
    | _ => none
  | some o :: r, x => match x with
    | some y :: q => match decRo o.ro y.ro, decL o.es y.es, decH r q with
      | some a, some b, some c => some ((a, b), c)
      | _, _, _ => none
    | _ => none

theorem decH_enc : ∀ (l : List (Option SO)) (x : Heap) (d : denH l), decH l x = some d → x = encH l d
  | [], x, d, h => by
    simp only [decH] at h
    split at h
    · rfl
    · cases h
  | none :: r, x, d, h => by
    simp only [decH] at h
    split at h
    · split at h
      · rename_i hb
        cases h
        rw [decH_enc _ _ _ hb]; rfl
      · cases h
    · cases h
  | some o :: r, x, d, h => by
    simp only [decH] at h
    split at h
    · split at h
      · rename_i ha hb hc
        cases h
        rw [decH_enc _ _ _ hc]
        have h1 := decRo_enc _ _ _ ha
        have h2 := decL_enc _ _ _ hb
        simp only [encH, ← h1, ← h2]
      · cases h
    · cases h

structure Sh where
  vs : List ST
  h : List (Option SO)

@[reducible] def Sh.den (s : Sh) : Type := denT s.vs × denH s.h

theorem encH_length : ∀ (l : List (Option SO)) (d : denH l), (encH l d).length = l.length
  | [], _ => rfl
  | none :: r, d => by simp [encH, encH_length r]
  | some o :: r, d => by simp [encH, encH_length r]

abbrev KF := List TV → Heap → Option Res
abbrev KL := Xt → List AV → Heap → Option Res

/-- A summary that is given by a typed function at a shape; elsewhere by another one. -/
def mkS (s : Sh) (l : s.den → KF → Option Res) (other : Summ) : Summ := fun vs h K =>
  match decT s.vs vs, decH s.h h with
  | some a, some b => l (a, b) K
  | _, _ => other vs h K

def noS : Summ := fun _ _ _ => none

def mkG (s : Sh) (live : List Nat) (out : Xt → List Nat) (l : s.den → KL → Option Res) : LoopS where
  live := live
  out := out
  run := fun vs h K => match decT s.vs vs, decH s.h h with
    | some a, some b => l (a, b) K
    | _, _ => none

section
variable {P : Program} {T : FuncId → Option Summ} {nt n0 : Nat} {LT : Nat → Option LoopS}

theorem mkG_run {s : Sh} {live : List Nat} {out : Xt → List Nat} {l : s.den → KL → Option Res} {vs : List TV} {h : Heap} {K : KL} {r : Res} (he : (mkG s live out l).run vs h K = some r) :
    ∃ d : s.den, vs = encT s.vs d.1 ∧ h = encH s.h d.2 ∧ l d K = some r := by
  change (match decT s.vs vs, decH s.h h with | some a, some b => l (a, b) K | _, _ => none) = some r at he
  split at he
  · rename_i a b ha hb
    exact ⟨(a, b), decT_enc _ _ _ ha, decH_enc _ _ _ hb, he⟩
  · cases he

theorem loopOK_of {s : Sh} {live : List Nat} {out : Xt → List Nat} {b : Code} (l : Nat → s.den → KL → Option Res) (F : Nat) (h0 : ∀ d K, l 0 d K = none)
    (hs : ∀ k d K, l (k + 1) d K = roundOf P T nt n0 LT (mkG s live out (l k)) b (encT s.vs d.1) (encH s.h d.2) K) :
    LoopOK P T nt n0 LT (mkG s live out (l F)) b := by
  refine ⟨fun k => mkG s live out (l k), fun k => ⟨rfl, rfl⟩, fun vs h K r he => ⟨F, he⟩, fun vs h K => ?_, fun k vs h K r he => ?_⟩
  · cases hq : (mkG s live out (l 0)).run vs h K with
    | none => rfl
    | some r =>
      obtain ⟨d, _, _, h3⟩ := mkG_run hq
      rw [h0] at h3; cases h3
  · obtain ⟨d, rfl, rfl, h3⟩ := mkG_run he
    rw [hs] at h3
    exact h3

theorem loopsOK_nil : LoopsOK P T nt n0 LT [] := fun b hb => by cases hb
theorem loopsOK_cons {b : Code} {l : List Code} {S : LoopS} (hS : LT (firstRegion b) = some S) (h : LoopOK P T nt n0 LT S b) (hl : LoopsOK P T nt n0 LT l) : LoopsOK P T nt n0 LT (b :: l) := by
  intro c hc S' hS'
  rcases List.mem_cons.1 hc with rfl | hc
  · rw [hS] at hS'; cases hS'; exact h
  · exact hl c hc S' hS'
/-- A loop that is not reached. -/
theorem loopsOK_skip {b : Code} {l : List Code} (hS : LT (firstRegion b) = none) (hl : LoopsOK P T nt n0 LT l) : LoopsOK P T nt n0 LT (b :: l) := by
  intro c hc S' hS'
  rcases List.mem_cons.1 hc with rfl | hc
  · rw [hS] at hS'; cases hS'
  · exact hl c hc S' hS'

/-- What is done at a body's end. -/
noncomputable def endK (P : Program) (n0 : Nat) (rv : List ResultVar) (K : List TV → Heap → Option Res) : Xt → Env → Heap → Option Res := fun e env h' => match e with
  | .normal => (match resVals P env h' rv with
    | some vs => normF n0 vs h' K
    | none => none)
  | .ret => (match resVals P env h' rv with
    | some vs => normF n0 vs h' K
    | none => none)
  | _ => none

theorem scopesOK_nil : ScopesOK P T nt n0 LT [] := fun b hb => by cases hb
theorem scopesOK_cons {b : Code} {l : List Code} {i : Nat} {S : LoopS} (hi : labelIn b = some i) (hS : LT (lkey i) = some S) (h : LabelOK P T nt n0 LT S i b) (hl : ScopesOK P T nt n0 LT l) : ScopesOK P T nt n0 LT (b :: l) := by
  intro c hc j S' hj hS'
  rcases List.mem_cons.1 hc with rfl | hc
  · rw [hi] at hj; cases hj
    rw [hS] at hS'; cases hS'; exact h
  · exact hl c hc j S' hj hS'
/-- A scope in which nothing jumps. -/
theorem scopesOK_skip {b : Code} {l : List Code} (hS : ∀ i, labelIn b = some i → LT (lkey i) = none) (hl : ScopesOK P T nt n0 LT l) : ScopesOK P T nt n0 LT (b :: l) := by
  intro c hc j S' hj hS'
  rcases List.mem_cons.1 hc with rfl | hc
  · rw [hS j hj] at hS'; cases hS'
  · exact hl c hc j S' hj hS'

theorem labelOK_of (hm : P.follows .mixedOrders = true) (hT : SoundT P T) {s : Sh} {live : List Nat} {out : Xt → List Nat} {b rest : Code} {i : Nat} (l : Nat → s.den → KL → Option Res) (F : Nat)
    (hf : findLabel b i = some rest) (h0 : ∀ d K, l 0 d K = none)
    (hs : ∀ k d K, l (k + 1) d K = passOf P T nt n0 LT (mkG s live out (l k)) i rest (encT s.vs d.1) (encH s.h d.2) K)
    (hl : LoopsOK P T nt n0 LT (loopsOf rest)) (hc : ScopesOK P T nt n0 LT (scopesOf rest)) :
    LabelOK P T nt n0 LT (mkG s live out (l F)) i b := by
  refine ⟨fun k => mkG s live out (l k), rest, hf, fun k => ⟨rfl, rfl⟩, fun vs h K r he => ⟨F, he⟩, fun vs h K => ?_, fun k vs h K r he => ?_, fun h1 h2 h3 h4 h5 => evC_wp hm hT rest hl hc h1 h2 h3 h4 h5⟩
  · cases hq : (mkG s live out (l 0)).run vs h K with
    | none => rfl
    | some r =>
      obtain ⟨d, _, _, h3⟩ := mkG_run hq
      rw [h0] at h3; cases h3
  · obtain ⟨d, rfl, rfl, h3⟩ := mkG_run he
    rw [hs] at h3
    exact h3

theorem noS_sound {f : FuncId} (he : ∀ args w, (callFunc f args).run P w = .ok (.enter f args) w) : SoundFn P f noS := ⟨he, fun vs h K r hev => by cases hev⟩

theorem enter_of {f : FuncId} {fn : Func} (hf : P.funcs[f]? = some fn) (hname : (fn.name == "runtime.NumGoroutine") = false) (hb : fn.body.isSome = true) (args : Array Value) (w : World) :
    (callFunc f args).run P w = .ok (.enter f args) w := by
  obtain ⟨c, hc⟩ := Option.isSome_iff_exists.1 hb
  have h1 : fn.name ≠ "runtime.NumGoroutine" := by simpa using hname
  simp [callFunc, hf, h1, hc]

theorem soundFn_of (hm : P.follows .mixedOrders = true) (hT : SoundT P T) {f : FuncId} {fn : Func} {c : Code} (hf : P.funcs[f]? = some fn) (hb : fn.body = some c) {s : Sh} {l : s.den → KF → Option Res} {other : Summ}
    (ho : SoundFn P f other) (hl : LoopsOK P T fn.ntmps s.h.length LT (loopsOf c)) (hsc : ScopesOK P T fn.ntmps s.h.length LT (scopesOf c))
    (hev : ∀ d K, evBody P T fn.ntmps s.h.length LT c fn.results.toList (encT s.vs d.1) (encH s.h d.2) K = l d K) : SoundFn P f (mkS s l other) := by
  refine ⟨ho.enter, fun vs h K r he => ?_⟩
  unfold mkS at he
  split at he
  · rename_i a b ha hb'
    have h1 := decT_enc _ _ _ ha
    have h2 := decH_enc _ _ _ hb'
    subst h1
    subst h2
    rw [← hev] at he
    intro G m w cvs hw hi hx
    exact evBody_sound hm hT hf hb hl hsc (encH_length _ _) he hi hx
  · exact ho.ok vs h K r he

theorem soundT_of {T : FuncId → Option Summ} (h : ∀ f S, T f = some S → SoundFn P f S) : SoundT P T := h

/-! ### Tables; the parts of code -/

def tab : List (Nat × Summ) → FuncId → Option Summ
  | [], _ => none
  | (g, S) :: r, f => if f = g then some S else tab r f

theorem tab_nil : SoundT P (tab []) := fun f S h => by cases h
theorem tab_cons {g : Nat} {S : Summ} {r : List (Nat × Summ)} (h : SoundFn P g S) (hr : SoundT P (tab r)) : SoundT P (tab ((g, S) :: r)) := fun f S' h' => by
  simp only [tab] at h'
  split at h'
  · rename_i hf; subst hf; cases h'; exact h
  · exact hr f S' h'

def outT : List (Xt × List Nat) → Xt → List Nat
  | [], _ => []
  | (e, l) :: r, x => if x = e then l else outT r x

def ltab : List (Nat × LoopS) → Nat → Option LoopS
  | [], _ => none
  | (g, S) :: r, f => if f = g then some S else ltab r f

def cL : Code → Code
  | .seq a _ => a
  | c => c
def cR : Code → Code
  | .seq _ b => b
  | c => c
def cT : Code → Code
  | .cond _ a _ => a
  | c => c
def cE : Code → Code
  | .cond _ _ b => b
  | c => c
def cB : Code → Code
  | .block _ a => a
  | .loop a => a
  | .scope a => a
  | c => c
def bodyOf (f : Func) : Code := match f.body with | some c => c | none => .skip

def iand (k : IntKind) (x y : Int) : Int := k.wrap (BitVec.ofInt k.bits x &&& BitVec.ofInt k.bits y).toNat
def ior (k : IntKind) (x y : Int) : Int := k.wrap (BitVec.ofInt k.bits x ||| BitVec.ofInt k.bits y).toNat
def ixor (k : IntKind) (x y : Int) : Int := k.wrap (BitVec.ofInt k.bits x ^^^ BitVec.ofInt k.bits y).toNat
def iandn (k : IntKind) (x y : Int) : Int := k.wrap (BitVec.ofInt k.bits x &&& ~~~ BitVec.ofInt k.bits y).toNat
def ishl (k : IntKind) (x y : Int) : Int := k.wrap (x * 2 ^ (min y.toNat k.bits))
def ishr (k : IntKind) (x y : Int) : Int := x.fdiv (2 ^ (min y.toNat k.bits))

/-! ### A row -/

def isTrueK : KF := fun rs _ => match rs with
  | [.lf (.bool b)] => cond b (some ([], [])) none
  | _ => none

theorem row_true {f : FuncId} {S : Summ} (hs : SoundFn P f S) {vs : List TV} {h : Heap} (he : S vs h isTrueK = some ([], [])) {m : GM} {w : World} {cvs : List Value} (hi : Inv ⟨w, fun _ => False⟩ m h w) (hx : TVs m vs cvs) :
    Calls P f cvs.toArray w fun e w' => e = .returned (.bool true) ∧ Ext w w' := by
  refine (hs.ok vs h _ _ he ⟨w, fun _ => False⟩ m w cvs rfl hi hx).mono ?_
  rintro e w' ⟨rs, h', hK, v, t, rfl, hr, hi'⟩
  refine ⟨?_, hi'.str, hi'.size, fun b hb => hi'.frame b hb (fun h => h)⟩
  unfold isTrueK at hK
  split at hK
  · rename_i b
    cases b with
    | false => cases hK
    | true =>
      have : v = .bool true := hr
      rw [this]
  · cases hK

end
end Go.Proofs.Ytillbabmlfjegaa.Ev
end

section
namespace Go.Proofs.Ytillbabmlfjegaa.X
open Go Go.Proofs.Ytillbabmlfjegaa.Ev Go.Proofs
set_option linter.unusedVariables false
/-! geom.within -/
noncomputable def f95_1 {β : Type} (F : Nat) (a1 : Int) (a2 : Int) (a3 : Int) (K0 : Bool → Option β) : Option β := cond (decide (a1 ≥ a2)) (K0 (decide (a1 ≤ a3))) (K0 false)
def sh95_1 : Sh := ⟨[.lf (.int .i64), .lf (.int .i64), .lf (.int .i64)], []⟩
noncomputable def S95_1 (F : Nat) (o : Summ) : Summ := mkS sh95_1 (fun d K => f95_1 F d.1.1 d.1.2.1 d.1.2.2.1 (fun (y0 : Bool) => K [.lf (.bool y0)] [])) o
noncomputable def code95 : Code := bodyOf Try.f95
theorem scopes95 : scopesOf code95 = [] := by kernel_rfl
theorem loops95 : loopsOf code95 = [] := by kernel_rfl
theorem enter95 : ∀ args w, (callFunc 95 args).run Try.prog w = .ok (.enter 95 args) w := enter_of (fn := Try.f95) (by kernel_rfl) (by kernel_rfl) (by kernel_rfl)
noncomputable def T95_1 (F : Nat) : FuncId → Option Summ := tab []
noncomputable def LT95_1 (F : Nat) : Nat → Option LoopS := ltab []
theorem E95_1g (F : Nat)    (d : sh95_1.den) (K : KF) : evBody Try.prog (tab []) 15 0 (ltab []) code95 Try.f95.results.toList (encT sh95_1.vs d.1) (encH sh95_1.h d.2) K = (fun (a1 : Int) (a2 : Int) (a3 : Int) (K0 : (Bool → Option Res)) => cond (decide (a1 ≥ a2)) (K0 (decide (a1 ≤ a3))) (K0 false)) d.1.1 d.1.2.1 d.1.2.2.1 (fun (y0 : Bool) => K [.lf (.bool y0)] []) := by kernel_rfl
theorem E95_1 (F : Nat) (d : sh95_1.den) (K : KF) : evBody Try.prog (T95_1 F) 15 0 (LT95_1 F) code95 Try.f95.results.toList (encT sh95_1.vs d.1) (encH sh95_1.h d.2) K = f95_1 F d.1.1 d.1.2.1 d.1.2.2.1 (fun (y0 : Bool) => K [.lf (.bool y0)] []) := Eq.mp (by kernel_rfl) (E95_1g F    d K)
theorem S95_1_ok (F : Nat) (o : Summ) (ho : SoundFn Try.prog 95 o) : SoundFn Try.prog 95 (S95_1 F o) :=
  soundFn_of (fn := Try.f95) (c := code95) (by kernel_rfl) tab_nil (by kernel_rfl) (by kernel_rfl) ho (by rw [loops95]; exact loopsOK_nil) (by rw [scopes95]; exact scopesOK_nil) (E95_1 F)
end Go.Proofs.Ytillbabmlfjegaa.X
end

section
namespace Go.Proofs.Ytillbabmlfjegaa.X
open Go Go.Proofs.Ytillbabmlfjegaa.Ev Go.Proofs
set_option linter.unusedVariables false
/-! geom.Right -/
noncomputable def f52_1 {β : Type} (F : Nat) (a1 : Int) (a2 : Int) (a3 : Int) (a4 : Int) (K0 : Bool → Option β) : Option β := f95_1 F a1 1 128 (fun x1 => cond x1 (f95_1 F a2 2 4 (fun x2 => cond x2 (f95_1 F a3 0 64 (fun x3 => cond x3 (f95_1 F a4 1 320 (fun x4 => K0 x4) ) (K0 false)) ) (K0 false)) ) (K0 false)) 
def sh52_1 : Sh := ⟨[.agg [.int .i64, .int .i64, .int .i64, .int .i64]], []⟩
noncomputable def S52_1 (F : Nat) (o : Summ) : Summ := mkS sh52_1 (fun d K => f52_1 F d.1.1.1 d.1.1.2.1 d.1.1.2.2.1 d.1.1.2.2.2.1 (fun (y0 : Bool) => K [.lf (.bool y0)] [])) o
noncomputable def code52 : Code := bodyOf Try.f52
theorem scopes52 : scopesOf code52 = [] := by kernel_rfl
theorem loops52 : loopsOf code52 = [] := by kernel_rfl
theorem enter52 : ∀ args w, (callFunc 52 args).run Try.prog w = .ok (.enter 52 args) w := enter_of (fn := Try.f52) (by kernel_rfl) (by kernel_rfl) (by kernel_rfl)
noncomputable def T52_1 (F : Nat) : FuncId → Option Summ := tab [(95, (S95_1 F noS))]
noncomputable def LT52_1 (F : Nat) : Nat → Option LoopS := ltab []
theorem E52_1g (F : Nat) (c95_1 : Int → Int → Int → (Bool → Option Res) → Option Res)   (d : sh52_1.den) (K : KF) : evBody Try.prog (tab [(95, (mkS sh95_1 (fun d K => c95_1 d.1.1 d.1.2.1 d.1.2.2.1 (fun (y0 : Bool) => K [.lf (.bool y0)] [])) noS))]) 21 0 (ltab []) code52 Try.f52.results.toList (encT sh52_1.vs d.1) (encH sh52_1.h d.2) K = (fun (a1 : Int) (a2 : Int) (a3 : Int) (a4 : Int) (K0 : (Bool → Option Res)) => c95_1 a1 1 128 (fun x1 => cond x1 (c95_1 a2 2 4 (fun x2 => cond x2 (c95_1 a3 0 64 (fun x3 => cond x3 (c95_1 a4 1 320 (fun x4 => K0 x4) ) (K0 false)) ) (K0 false)) ) (K0 false)) ) d.1.1.1 d.1.1.2.1 d.1.1.2.2.1 d.1.1.2.2.2.1 (fun (y0 : Bool) => K [.lf (.bool y0)] []) := by kernel_rfl
theorem E52_1 (F : Nat) (d : sh52_1.den) (K : KF) : evBody Try.prog (T52_1 F) 21 0 (LT52_1 F) code52 Try.f52.results.toList (encT sh52_1.vs d.1) (encH sh52_1.h d.2) K = f52_1 F d.1.1.1 d.1.1.2.1 d.1.1.2.2.1 d.1.1.2.2.2.1 (fun (y0 : Bool) => K [.lf (.bool y0)] []) := Eq.mp (by kernel_rfl) (E52_1g F (f95_1 F)   d K)
theorem S52_1_ok (F : Nat) (o : Summ) (ho : SoundFn Try.prog 52 o) : SoundFn Try.prog 52 (S52_1 F o) :=
  soundFn_of (fn := Try.f52) (c := code52) (by kernel_rfl) (tab_cons (S95_1_ok F _ (noS_sound enter95)) tab_nil) (by kernel_rfl) (by kernel_rfl) ho (by rw [loops52]; exact loopsOK_nil) (by rw [scopes52]; exact scopesOK_nil) (E52_1 F)
end Go.Proofs.Ytillbabmlfjegaa.X
end

section
namespace Go.Proofs.Ytillbabmlfjegaa.X
open Go Go.Proofs.Ytillbabmlfjegaa.Ev Go.Proofs
set_option linter.unusedVariables false
/-! geom.Levels -/
noncomputable def f102_1_l5 {β : Type} (F : Nat) (v3 : Int) (v4 : Int) (v5 : Int) (v6 : Int) (K0 : List Int → Option β) : Nat → Int → List Int → Option β
  | 0, _, _ => none
  | k + 1, v2, v7 => cond (decide (v2 > 1)) (cond (decide (v4 = 0)) none (cond (decide ((v7.length + 1) * 8 ≤ 70368744177664)) (f102_1_l5 F v3 v4 v5 v6 K0 k (IntKind.i64.wrap ((IntKind.i64.wrap ((IntKind.i64.wrap (v2 + v4)) - 1)).tdiv v4)) (v7 ++ [IntKind.i64.wrap ((IntKind.i64.wrap ((IntKind.i64.wrap (v2 + v4)) - 1)).tdiv v4)])) none)) (K0 v7)
noncomputable def f102_1 {β : Type} (F : Nat) (a1 : Int) (a2 : Int) (a3 : Int) (a4 : Int) (K0 : List Int → Option β) : Option β := f52_1 F a1 a2 a3 a4 (fun x1 => cond (!x1) (K0 []) (f102_1_l5 F a1 a2 a3 a4 (fun x8 => K0 x8) F a1 [a1])) 
def sh102_1 : Sh := ⟨[.agg [.int .i64, .int .i64, .int .i64, .int .i64]], []⟩
noncomputable def S102_1 (F : Nat) (o : Summ) : Summ := mkS sh102_1 (fun d K => f102_1 F d.1.1.1 d.1.1.2.1 d.1.1.2.2.1 d.1.1.2.2.2.1 (fun (y0 : List Int) => K [.lf (.full 0)] [some ⟨false, [.seq (.int .i64) 0 y0]⟩])) o
noncomputable def code102 : Code := bodyOf Try.f102
noncomputable def b102_0 : Code := cB (cB (cR (cL (cR (cR (cR (code102)))))))
theorem scopes102 : scopesOf code102 = [] := by kernel_rfl
theorem loops102 : loopsOf code102 = [b102_0] := by kernel_rfl
theorem enter102 : ∀ args w, (callFunc 102 args).run Try.prog w = .ok (.enter 102 args) w := enter_of (fn := Try.f102) (by kernel_rfl) (by kernel_rfl) (by kernel_rfl)
noncomputable def T102_1 (F : Nat) : FuncId → Option Summ := tab [(52, (S52_1 F noS))]
def sh102_1_l5 : Sh := ⟨[.lf (.ptr 0 0), .lf (.full 1), .lf (.int .i64)], [some ⟨some false, [.int .i64, .int .i64, .int .i64, .int .i64]⟩, some ⟨some false, [.seq (.int .i64) 0]⟩]⟩
noncomputable def G102_1_5 (F k : Nat) : LoopS := mkG sh102_1_l5 [1, 3, 4] (outT [(.exit 0, [3])]) (fun d K => f102_1_l5 F d.2.1.2.1 d.2.1.2.2.1 d.2.1.2.2.2.1 d.2.1.2.2.2.2.1 (fun (y4 : List Int) => K (.exit 0) [.tv (.lf (.full 1))] [some ⟨false, [.int .i64 d.2.1.2.1, .int .i64 d.2.1.2.2.1, .int .i64 d.2.1.2.2.2.1, .int .i64 d.2.1.2.2.2.2.1]⟩, some ⟨false, [.seq (.int .i64) 0 y4]⟩]) k d.1.2.2.1 d.2.2.1.2.1)
noncomputable def LT102_1 (F : Nat) : Nat → Option LoopS := ltab [(5, G102_1_5 F F)]
theorem L102_1_5g (F k : Nat) (c52_1 : Int → Int → Int → Int → (Bool → Option Res) → Option Res)  (l5 : Int → Int → Int → Int → (List Int → Option Res) → Nat → Int → List Int → Option Res) (X5 : LoopS) (d : sh102_1_l5.den) (K : KL) : (fun (v3 : Int) (v4 : Int) (v5 : Int) (v6 : Int) (K0 : (List Int → Option Res)) (k : Nat) (v2 : Int) (v7 : List Int) => cond (decide (v2 > 1)) (cond (decide (v4 = 0)) none (cond (decide ((v7.length + 1) * 8 ≤ 70368744177664)) (l5 v3 v4 v5 v6 K0 k (IntKind.i64.wrap ((IntKind.i64.wrap ((IntKind.i64.wrap (v2 + v4)) - 1)).tdiv v4)) (v7 ++ [IntKind.i64.wrap ((IntKind.i64.wrap ((IntKind.i64.wrap (v2 + v4)) - 1)).tdiv v4)])) none)) (K0 v7)) d.2.1.2.1 d.2.1.2.2.1 d.2.1.2.2.2.1 d.2.1.2.2.2.2.1 (fun (y4 : List Int) => K (.exit 0) [.tv (.lf (.full 1))] [some ⟨false, [.int .i64 d.2.1.2.1, .int .i64 d.2.1.2.2.1, .int .i64 d.2.1.2.2.2.1, .int .i64 d.2.1.2.2.2.2.1]⟩, some ⟨false, [.seq (.int .i64) 0 y4]⟩]) k d.1.2.2.1 d.2.2.1.2.1 = roundOf Try.prog (tab [(52, (mkS sh52_1 (fun d K => c52_1 d.1.1.1 d.1.1.2.1 d.1.1.2.2.1 d.1.1.2.2.2.1 (fun (y0 : Bool) => K [.lf (.bool y0)] [])) noS))]) 28 0 (ltab [(5, X5)]) (mkG sh102_1_l5 [1, 3, 4] (outT [(.exit 0, [3])]) (fun d K => l5 d.2.1.2.1 d.2.1.2.2.1 d.2.1.2.2.2.1 d.2.1.2.2.2.2.1 (fun (y4 : List Int) => K (.exit 0) [.tv (.lf (.full 1))] [some ⟨false, [.int .i64 d.2.1.2.1, .int .i64 d.2.1.2.2.1, .int .i64 d.2.1.2.2.2.1, .int .i64 d.2.1.2.2.2.2.1]⟩, some ⟨false, [.seq (.int .i64) 0 y4]⟩]) k d.1.2.2.1 d.2.2.1.2.1)) b102_0 (encT sh102_1_l5.vs d.1) (encH sh102_1_l5.h d.2) K := by kernel_rfl
theorem L102_1_5 (F : Nat) : LoopOK Try.prog (T102_1 F) 28 0 (LT102_1 F) (G102_1_5 F F) b102_0 :=
  loopOK_of (s := sh102_1_l5) (live := [1, 3, 4]) (out := (outT [(.exit 0, [3])])) (fun k d K => f102_1_l5 F d.2.1.2.1 d.2.1.2.2.1 d.2.1.2.2.2.1 d.2.1.2.2.2.2.1 (fun (y4 : List Int) => K (.exit 0) [.tv (.lf (.full 1))] [some ⟨false, [.int .i64 d.2.1.2.1, .int .i64 d.2.1.2.2.1, .int .i64 d.2.1.2.2.2.1, .int .i64 d.2.1.2.2.2.2.1]⟩, some ⟨false, [.seq (.int .i64) 0 y4]⟩]) k d.1.2.2.1 d.2.2.1.2.1) F (fun d K => by kernel_rfl)  (fun k d K => Eq.mp (by kernel_rfl) (L102_1_5g F k (f52_1 F)  (f102_1_l5 F) (G102_1_5 F F) d K))
theorem E102_1g (F : Nat) (c52_1 : Int → Int → Int → Int → (Bool → Option Res) → Option Res) (l5 : Int → Int → Int → Int → (List Int → Option Res) → Nat → Int → List Int → Option Res)  (d : sh102_1.den) (K : KF) : evBody Try.prog (tab [(52, (mkS sh52_1 (fun d K => c52_1 d.1.1.1 d.1.1.2.1 d.1.1.2.2.1 d.1.1.2.2.2.1 (fun (y0 : Bool) => K [.lf (.bool y0)] [])) noS))]) 28 0 (ltab [(5, mkG sh102_1_l5 [1, 3, 4] (outT [(.exit 0, [3])]) (fun d K => l5 d.2.1.2.1 d.2.1.2.2.1 d.2.1.2.2.2.1 d.2.1.2.2.2.2.1 (fun (y4 : List Int) => K (.exit 0) [.tv (.lf (.full 1))] [some ⟨false, [.int .i64 d.2.1.2.1, .int .i64 d.2.1.2.2.1, .int .i64 d.2.1.2.2.2.1, .int .i64 d.2.1.2.2.2.2.1]⟩, some ⟨false, [.seq (.int .i64) 0 y4]⟩]) F d.1.2.2.1 d.2.2.1.2.1))]) code102 Try.f102.results.toList (encT sh102_1.vs d.1) (encH sh102_1.h d.2) K = (fun (a1 : Int) (a2 : Int) (a3 : Int) (a4 : Int) (K0 : (List Int → Option Res)) => c52_1 a1 a2 a3 a4 (fun x1 => cond (!x1) (K0 []) (l5 a1 a2 a3 a4 (fun x8 => K0 x8) F a1 [a1])) ) d.1.1.1 d.1.1.2.1 d.1.1.2.2.1 d.1.1.2.2.2.1 (fun (y0 : List Int) => K [.lf (.full 0)] [some ⟨false, [.seq (.int .i64) 0 y0]⟩]) := by kernel_rfl
theorem E102_1 (F : Nat) (d : sh102_1.den) (K : KF) : evBody Try.prog (T102_1 F) 28 0 (LT102_1 F) code102 Try.f102.results.toList (encT sh102_1.vs d.1) (encH sh102_1.h d.2) K = f102_1 F d.1.1.1 d.1.1.2.1 d.1.1.2.2.1 d.1.1.2.2.2.1 (fun (y0 : List Int) => K [.lf (.full 0)] [some ⟨false, [.seq (.int .i64) 0 y0]⟩]) := Eq.mp (by kernel_rfl) (E102_1g F (f52_1 F) (f102_1_l5 F)  d K)
theorem S102_1_ok (F : Nat) (o : Summ) (ho : SoundFn Try.prog 102 o) : SoundFn Try.prog 102 (S102_1 F o) :=
  soundFn_of (fn := Try.f102) (c := code102) (by kernel_rfl) (tab_cons (S52_1_ok F _ (noS_sound enter52)) tab_nil) (by kernel_rfl) (by kernel_rfl) ho (by rw [loops102]; exact (loopsOK_cons (by kernel_rfl) (L102_1_5 F) loopsOK_nil)) (by rw [scopes102]; exact scopesOK_nil) (E102_1 F)
end Go.Proofs.Ytillbabmlfjegaa.X
end

section
namespace Go.Proofs.Ytillbabmlfjegaa.X
open Go Go.Proofs.Ytillbabmlfjegaa.Ev Go.Proofs
set_option linter.unusedVariables false
/-! geom.Nodes -/
noncomputable def f72_1_l3 {β : Type} (F : Nat) (v3 : Int) (v5 : List Int) (K0 : Int → Option β) : Nat → Int → Int → Option β
  | 0, _, _ => none
  | k + 1, v2, v4 => cond (decide (v4 < v3)) (cond (decide ((0 : Int) ≤ v4 ∧ v4 < ((v5.length : Nat) : Int))) (cond (decide (0 + v4.toNat < v5.length)) (f72_1_l3 F v3 v5 K0 k (IntKind.i64.wrap (v2 + (v5.getD (0 + v4.toNat) 0))) (IntKind.i64.wrap (v4 + 1))) none) none) (K0 v2)
noncomputable def f72_1 {β : Type} (F : Nat) (a1 : Int) (a2 : Int) (a3 : Int) (a4 : Int) (K0 : Int → Option β) : Option β := f102_1 F a1 a2 a3 a4 (fun x1 => f72_1_l3 F ((x1.length : Nat) : Int) x1 (fun x6 => K0 x6) F 0 0) 
def sh72_1 : Sh := ⟨[.agg [.int .i64, .int .i64, .int .i64, .int .i64]], []⟩
noncomputable def S72_1 (F : Nat) (o : Summ) : Summ := mkS sh72_1 (fun d K => f72_1 F d.1.1.1 d.1.1.2.1 d.1.1.2.2.1 d.1.1.2.2.2.1 (fun (y0 : Int) => K [.lf (.int .i64 y0)] [])) o
noncomputable def code72 : Code := bodyOf Try.f72
noncomputable def b72_0 : Code := cB (cB (cR (cL (cR (cR (code72))))))
theorem scopes72 : scopesOf code72 = [] := by kernel_rfl
theorem loops72 : loopsOf code72 = [b72_0] := by kernel_rfl
theorem enter72 : ∀ args w, (callFunc 72 args).run Try.prog w = .ok (.enter 72 args) w := enter_of (fn := Try.f72) (by kernel_rfl) (by kernel_rfl) (by kernel_rfl)
noncomputable def T72_1 (F : Nat) : FuncId → Option Summ := tab [(102, (S102_1 F noS))]
def sh72_1_l3 : Sh := ⟨[.lf (.int .i64), .lf (.full 0), .lf (.int .i64), .lf (.int .i64)], [some ⟨some false, [.seq (.int .i64) 0]⟩]⟩
noncomputable def G72_1_3 (F k : Nat) : LoopS := mkG sh72_1_l3 [3, 7, 8, 9] (outT [(.exit 0, [3])]) (fun d K => f72_1_l3 F d.1.2.2.1 d.2.1.2.1 (fun (y0 : Int) => K (.exit 0) [.tv (.lf (.int .i64 y0))] [some ⟨false, [.seq (.int .i64) 0 d.2.1.2.1]⟩]) k d.1.1 d.1.2.2.2.1)
noncomputable def LT72_1 (F : Nat) : Nat → Option LoopS := ltab [(3, G72_1_3 F F)]
theorem L72_1_3g (F k : Nat) (c102_1 : Int → Int → Int → Int → (List Int → Option Res) → Option Res)  (l3 : Int → List Int → (Int → Option Res) → Nat → Int → Int → Option Res) (X3 : LoopS) (d : sh72_1_l3.den) (K : KL) : (fun (v3 : Int) (v5 : List Int) (K0 : (Int → Option Res)) (k : Nat) (v2 : Int) (v4 : Int) => cond (decide (v4 < v3)) (cond (decide ((0 : Int) ≤ v4 ∧ v4 < ((v5.length : Nat) : Int))) (cond (decide (0 + v4.toNat < v5.length)) (l3 v3 v5 K0 k (IntKind.i64.wrap (v2 + (v5.getD (0 + v4.toNat) 0))) (IntKind.i64.wrap (v4 + 1))) none) none) (K0 v2)) d.1.2.2.1 d.2.1.2.1 (fun (y0 : Int) => K (.exit 0) [.tv (.lf (.int .i64 y0))] [some ⟨false, [.seq (.int .i64) 0 d.2.1.2.1]⟩]) k d.1.1 d.1.2.2.2.1 = roundOf Try.prog (tab [(102, (mkS sh102_1 (fun d K => c102_1 d.1.1.1 d.1.1.2.1 d.1.1.2.2.1 d.1.1.2.2.2.1 (fun (y0 : List Int) => K [.lf (.full 0)] [some ⟨false, [.seq (.int .i64) 0 y0]⟩])) noS))]) 18 0 (ltab [(3, X3)]) (mkG sh72_1_l3 [3, 7, 8, 9] (outT [(.exit 0, [3])]) (fun d K => l3 d.1.2.2.1 d.2.1.2.1 (fun (y0 : Int) => K (.exit 0) [.tv (.lf (.int .i64 y0))] [some ⟨false, [.seq (.int .i64) 0 d.2.1.2.1]⟩]) k d.1.1 d.1.2.2.2.1)) b72_0 (encT sh72_1_l3.vs d.1) (encH sh72_1_l3.h d.2) K := by kernel_rfl
theorem L72_1_3 (F : Nat) : LoopOK Try.prog (T72_1 F) 18 0 (LT72_1 F) (G72_1_3 F F) b72_0 :=
  loopOK_of (s := sh72_1_l3) (live := [3, 7, 8, 9]) (out := (outT [(.exit 0, [3])])) (fun k d K => f72_1_l3 F d.1.2.2.1 d.2.1.2.1 (fun (y0 : Int) => K (.exit 0) [.tv (.lf (.int .i64 y0))] [some ⟨false, [.seq (.int .i64) 0 d.2.1.2.1]⟩]) k d.1.1 d.1.2.2.2.1) F (fun d K => by kernel_rfl)  (fun k d K => Eq.mp (by kernel_rfl) (L72_1_3g F k (f102_1 F)  (f72_1_l3 F) (G72_1_3 F F) d K))
theorem E72_1g (F : Nat) (c102_1 : Int → Int → Int → Int → (List Int → Option Res) → Option Res) (l3 : Int → List Int → (Int → Option Res) → Nat → Int → Int → Option Res)  (d : sh72_1.den) (K : KF) : evBody Try.prog (tab [(102, (mkS sh102_1 (fun d K => c102_1 d.1.1.1 d.1.1.2.1 d.1.1.2.2.1 d.1.1.2.2.2.1 (fun (y0 : List Int) => K [.lf (.full 0)] [some ⟨false, [.seq (.int .i64) 0 y0]⟩])) noS))]) 18 0 (ltab [(3, mkG sh72_1_l3 [3, 7, 8, 9] (outT [(.exit 0, [3])]) (fun d K => l3 d.1.2.2.1 d.2.1.2.1 (fun (y0 : Int) => K (.exit 0) [.tv (.lf (.int .i64 y0))] [some ⟨false, [.seq (.int .i64) 0 d.2.1.2.1]⟩]) F d.1.1 d.1.2.2.2.1))]) code72 Try.f72.results.toList (encT sh72_1.vs d.1) (encH sh72_1.h d.2) K = (fun (a1 : Int) (a2 : Int) (a3 : Int) (a4 : Int) (K0 : (Int → Option Res)) => c102_1 a1 a2 a3 a4 (fun x1 => l3 ((x1.length : Nat) : Int) x1 (fun x6 => K0 x6) F 0 0) ) d.1.1.1 d.1.1.2.1 d.1.1.2.2.1 d.1.1.2.2.2.1 (fun (y0 : Int) => K [.lf (.int .i64 y0)] []) := by kernel_rfl
theorem E72_1 (F : Nat) (d : sh72_1.den) (K : KF) : evBody Try.prog (T72_1 F) 18 0 (LT72_1 F) code72 Try.f72.results.toList (encT sh72_1.vs d.1) (encH sh72_1.h d.2) K = f72_1 F d.1.1.1 d.1.1.2.1 d.1.1.2.2.1 d.1.1.2.2.2.1 (fun (y0 : Int) => K [.lf (.int .i64 y0)] []) := Eq.mp (by kernel_rfl) (E72_1g F (f102_1 F) (f72_1_l3 F)  d K)
theorem S72_1_ok (F : Nat) (o : Summ) (ho : SoundFn Try.prog 72 o) : SoundFn Try.prog 72 (S72_1 F o) :=
  soundFn_of (fn := Try.f72) (c := code72) (by kernel_rfl) (tab_cons (S102_1_ok F _ (noS_sound enter102)) tab_nil) (by kernel_rfl) (by kernel_rfl) ho (by rw [loops72]; exact (loopsOK_cons (by kernel_rfl) (L72_1_3 F) loopsOK_nil)) (by rw [scopes72]; exact scopesOK_nil) (E72_1 F)
end Go.Proofs.Ytillbabmlfjegaa.X
end

section
namespace Go.Proofs.Ytillbabmlfjegaa.X
open Go Go.Proofs.Ytillbabmlfjegaa.Ev Go.Proofs
set_option linter.unusedVariables false
/-! geom.Root -/
noncomputable def f57_1 {β : Type} (F : Nat) (a1 : Int) (a2 : Int) (a3 : Int) (a4 : Int) (K0 : Int → Option β) : Option β := f72_1 F a1 a2 a3 a4 (fun x1 => K0 (if IntKind.i64.wrap (x1 - 1) > 0 then IntKind.i64.wrap (x1 - 1) else 0)) 
def sh57_1 : Sh := ⟨[.agg [.int .i64, .int .i64, .int .i64, .int .i64]], []⟩
noncomputable def S57_1 (F : Nat) (o : Summ) : Summ := mkS sh57_1 (fun d K => f57_1 F d.1.1.1 d.1.1.2.1 d.1.1.2.2.1 d.1.1.2.2.2.1 (fun (y0 : Int) => K [.lf (.int .i64 y0)] [])) o
noncomputable def code57 : Code := bodyOf Try.f57
theorem scopes57 : scopesOf code57 = [] := by kernel_rfl
theorem loops57 : loopsOf code57 = [] := by kernel_rfl
theorem enter57 : ∀ args w, (callFunc 57 args).run Try.prog w = .ok (.enter 57 args) w := enter_of (fn := Try.f57) (by kernel_rfl) (by kernel_rfl) (by kernel_rfl)
noncomputable def T57_1 (F : Nat) : FuncId → Option Summ := tab [(72, (S72_1 F noS))]
noncomputable def LT57_1 (F : Nat) : Nat → Option LoopS := ltab []
theorem E57_1g (F : Nat) (c72_1 : Int → Int → Int → Int → (Int → Option Res) → Option Res)   (d : sh57_1.den) (K : KF) : evBody Try.prog (tab [(72, (mkS sh72_1 (fun d K => c72_1 d.1.1.1 d.1.1.2.1 d.1.1.2.2.1 d.1.1.2.2.2.1 (fun (y0 : Int) => K [.lf (.int .i64 y0)] [])) noS))]) 7 0 (ltab []) code57 Try.f57.results.toList (encT sh57_1.vs d.1) (encH sh57_1.h d.2) K = (fun (a1 : Int) (a2 : Int) (a3 : Int) (a4 : Int) (K0 : (Int → Option Res)) => c72_1 a1 a2 a3 a4 (fun x1 => K0 (if IntKind.i64.wrap (x1 - 1) > 0 then IntKind.i64.wrap (x1 - 1) else 0)) ) d.1.1.1 d.1.1.2.1 d.1.1.2.2.1 d.1.1.2.2.2.1 (fun (y0 : Int) => K [.lf (.int .i64 y0)] []) := by kernel_rfl
theorem E57_1 (F : Nat) (d : sh57_1.den) (K : KF) : evBody Try.prog (T57_1 F) 7 0 (LT57_1 F) code57 Try.f57.results.toList (encT sh57_1.vs d.1) (encH sh57_1.h d.2) K = f57_1 F d.1.1.1 d.1.1.2.1 d.1.1.2.2.1 d.1.1.2.2.2.1 (fun (y0 : Int) => K [.lf (.int .i64 y0)] []) := Eq.mp (by kernel_rfl) (E57_1g F (f72_1 F)   d K)
theorem S57_1_ok (F : Nat) (o : Summ) (ho : SoundFn Try.prog 57 o) : SoundFn Try.prog 57 (S57_1 F o) :=
  soundFn_of (fn := Try.f57) (c := code57) (by kernel_rfl) (tab_cons (S72_1_ok F _ (noS_sound enter72)) tab_nil) (by kernel_rfl) (by kernel_rfl) ho (by rw [loops57]; exact loopsOK_nil) (by rw [scopes57]; exact scopesOK_nil) (E57_1 F)
end Go.Proofs.Ytillbabmlfjegaa.X
end
