/- The evaluator is sound, eighth part: memory that is made and written. -/
import Derived.Test.YtlokielmpdjedaaEvS7
namespace Go.Proofs.Ytlokielmpdjedaa.Ev
open Go
set_option linter.unusedVariables false

variable {P : Program}

/-- One block alone is another one. -/
structure OnlyB (w w' : World) (g : Nat) : Prop where
  str : Str w w'
  size : w'.heap.size = w.heap.size
  block : ∀ b, b ≠ g → w'.heap[b]? = w.heap[b]?

theorem OnlyB.refl (w : World) (g : Nat) : OnlyB w w g := ⟨Str.refl w, rfl, fun _ _ => rfl⟩

section
variable {G : Ctx} {m : GM} {h : Heap} {w w' : World} {a : Act} {env : Env} {o : Oper} {K : AV → Heap → Option Res} {r : Res}

theorem Placed.only {g : Gh} {ro : Bool} {cs : List Value} {c : Nat} (e : OnlyB w w' c) (hne : ∀ b, g.addr = some b → b.1 ≠ c) (h : Placed g w ro cs) : Placed g w' ro cs := by
  rcases h with h | ⟨b, blk, t, fr, h1, h2, h3⟩
  · exact .inl h
  · exact .inr ⟨b, blk, t, fr, h1, by rw [e.block _ (hne b h1)]; exact h2, h3⟩

theorem hget_hset {i j : Nat} {o : Option Ob} {ob : Ob} (h1 : hget (hset h i o) j = some ob) : (j = i ∧ o = some ob) ∨ (j ≠ i ∧ hget h j = some ob) := by
  by_cases hj : i = j
  · subst hj
    by_cases hl : i < h.length
    · rw [hget_hset_same hl] at h1; exact .inl ⟨rfl, h1⟩
    · have := hget_lt h1
      rw [hset_length] at this
      exact absurd this hl
  · rw [hget_hset_ne hj] at h1; exact .inr ⟨fun e => hj e.symm, h1⟩

/-- A written object's block is no other object's. -/
theorem Inv.apart (hi : Inv G m h w) {id j : Nat} {es : List LV} {ob : Ob} {g gj : Gh} {b c : Nat × Nat} (hid : hget h id = some ⟨false, es⟩) (hg : m[id]? = some g) (hb : g.addr = some b)
    (hne : j ≠ id) (hj : hget h j = some ob) (hgj : m[j]? = some gj) (hc : gj.addr = some c) : c.1 ≠ b.1 := by
  cases hro : ob.ro with
  | false => exact hi.dist j id ob ⟨false, es⟩ gj g c b hne hj hid hro rfl hgj hg hc hb
  | true =>
    have h1 := hi.own id _ g b hid hg hb
    have h2 := hi.own j ob gj c hj hgj hc
    rw [hro] at h2
    simp only [Own, if_true, Bool.false_eq_true, if_false] at h1 h2
    intro e
    rw [e] at h2
    rcases h1 with h1 | h1
    · exact h2.1 h1
    · omega

theorem Inv.kill (hi : Inv G m h w) {id : Nat} {es : List LV} {g : Gh} {b : Nat × Nat} (hid : hget h id = some ⟨false, es⟩) (hg : m[id]? = some g) (hb : g.addr = some b) (e : OnlyB w w' b.1) :
    Inv G m (hset h id none) w' := by
  refine ⟨by rw [hset_length]; exact hi.len, fun j ob gj hj hgj => ?_, fun j ob gj c hj hgj hc => ?_, fun i j oi oj gi gj b c hne h1 h2 h3 h4 h5 h6 h7 h8 => ?_, hi.str.trans e.str, by rw [e.size]; exact hi.size, fun c hc hO => ?_⟩
  · rcases hget_hset hj with ⟨_, h0⟩ | ⟨hne, hj⟩
    · cases h0
    · obtain ⟨hs, cs, ho, hp⟩ := hi.obs j ob gj hj hgj
      exact ⟨hs, cs, ho, hp.only e fun c hc => hi.apart hid hg hb hne hj hgj hc⟩
  · rcases hget_hset hj with ⟨_, h0⟩ | ⟨hne, hj⟩
    · cases h0
    · exact hi.own j ob gj c hj hgj hc
  · rcases hget_hset h1 with ⟨_, h0⟩ | ⟨_, h1⟩
    · cases h0
    rcases hget_hset h2 with ⟨_, h0⟩ | ⟨_, h2⟩
    · cases h0
    exact hi.dist i j oi oj gi gj b c hne h1 h2 h3 h4 h5 h6 h7 h8
  · have h1 := hi.own id _ g b hid hg hb
    simp only [Own, Bool.false_eq_true, if_false] at h1
    have : c ≠ b.1 := by
      intro e
      subst e
      rcases h1 with h1 | h1
      · exact hO h1
      · omega
    rw [e.block c this]
    exact hi.frame c hc hO

theorem Inv.drop (hi : Inv G m h w) (id : Nat) : Inv G m (hset h id none) w := by
  refine ⟨by rw [hset_length]; exact hi.len, fun j ob gj hj hgj => ?_, fun j ob gj c hj hgj hc => ?_, fun i j oi oj gi gj b c hne h1 h2 h3 h4 h5 h6 h7 h8 => ?_, hi.str, hi.size, hi.frame⟩
  · rcases hget_hset hj with ⟨_, h0⟩ | ⟨hne, hj⟩
    · cases h0
    · exact hi.obs j ob gj hj hgj
  · rcases hget_hset hj with ⟨_, h0⟩ | ⟨hne, hj⟩
    · cases h0
    · exact hi.own j ob gj c hj hgj hc
  · rcases hget_hset h1 with ⟨_, h0⟩ | ⟨_, h1⟩
    · cases h0
    rcases hget_hset h2 with ⟨_, h0⟩ | ⟨_, h2⟩
    · cases h0
    exact hi.dist i j oi oj gi gj b c hne h1 h2 h3 h4 h5 h6 h7 h8

/-- The object of a block that was written. -/
theorem Inv.put (hi : Inv G m h w) {id : Nat} {es es' : List LV} {g : Gh} {b : Nat × Nat} (hid : hget h id = some ⟨false, es⟩) (hg : m[id]? = some g) (hb : g.addr = some b) (e : OnlyB w w' b.1)
    (ho : ObRel m g w' ⟨false, es'⟩) : Inv G m (hset h id (some ⟨false, es'⟩)) w' := by
  have hk := hi.kill hid hg hb e
  refine ⟨by rw [hset_length]; exact hi.len, fun j ob gj hj hgj => ?_, fun j ob gj c hj hgj hc => ?_, fun i j oi oj gi gj b' c hne h1 h2 h3 h4 h5 h6 h7 h8 => ?_, hk.str, hk.size, hk.frame⟩
  · rcases hget_hset hj with ⟨rfl, h0⟩ | ⟨hne, hj⟩
    · cases h0; rw [hg] at hgj; cases hgj; exact ho
    · exact hk.obs j ob gj (by rw [hget_hset_ne (fun e => hne e.symm)]; exact hj) hgj
  · rcases hget_hset hj with ⟨rfl, h0⟩ | ⟨hne, hj⟩
    · cases h0; rw [hg] at hgj; cases hgj; exact hi.own j ⟨false, es⟩ g c hid hg hc
    · exact hi.own j ob gj c hj hgj hc
  · rcases hget_hset h1 with ⟨e1, h0⟩ | ⟨n1, q1⟩
    · rcases hget_hset h2 with ⟨e2, _⟩ | ⟨n2, q2⟩
      · exact absurd (e1.trans e2.symm) hne
      · exact hi.dist i j _ oj gi gj b' c hne (by rw [e1]; exact hid) q2 rfl h4 h5 h6 h7 h8
    · rcases hget_hset h2 with ⟨e2, h0⟩ | ⟨n2, q2⟩
      · exact hi.dist i j oi _ gi gj b' c hne q1 (by rw [e2]; exact hid) h3 rfl h5 h6 h7 h8
      · exact hi.dist i j oi oj gi gj b' c hne q1 q2 h3 h4 h5 h6 h7 h8

theorem hget_app {x : Option Ob} {j : Nat} {ob : Ob} (h1 : hget (h ++ [x]) j = some ob) : (j < h.length ∧ hget h j = some ob) ∨ (j = h.length ∧ x = some ob) := by
  by_cases hj : j < h.length
  · rw [hget_append_left hj] at h1; exact .inl ⟨hj, h1⟩
  · rw [hget_append_right (by omega)] at h1
    have hl := hget_lt h1
    simp only [List.length_singleton] at hl
    have : j - h.length = 0 := by omega
    rw [this] at h1
    exact .inr ⟨by omega, h1⟩

theorem gm_app_old {g gj : Gh} {j : Nat} (hj : j < m.length) (h1 : (m ++ [g])[j]? = some gj) : m[j]? = some gj := by
  rw [List.getElem?_append_left hj] at h1; exact h1
theorem gm_app_new {g : Gh} : (m ++ [g])[m.length]? = some g := by simp

/-- One object more. -/
theorem Inv.add (hi : Inv G m h w) {g : Gh} {ob : Ob} (ho : ObRel (m ++ [g]) g w ob) (hown : ∀ b, g.addr = some b → Own G ob.ro b.1)
    (hd : ob.ro = false → ∀ b, g.addr = some b → ∀ j oj gj c, hget h j = some oj → oj.ro = false → m[j]? = some gj → gj.addr = some c → c.1 ≠ b.1) :
    Inv G (m ++ [g]) (h ++ [some ob]) w := by
  refine ⟨by simp [hi.len], fun j oj gj hj hgj => ?_, fun j oj gj c hj hgj hc => ?_, fun i j oi oj gi gj b c hne h1 h2 h3 h4 h5 h6 h7 h8 => ?_, hi.str, hi.size, hi.frame⟩
  · rcases hget_app hj with ⟨hl, hj⟩ | ⟨rfl, h0⟩
    · obtain ⟨hs, cs, hoc, hp⟩ := hi.obs j oj gj hj (gm_app_old (by rw [hi.len]; exact hl) hgj)
      exact ⟨hs, cs, hoc.mono (pre_append m _), hp⟩
    · cases h0
      rw [← hi.len, gm_app_new] at hgj
      cases hgj
      exact ho
  · rcases hget_app hj with ⟨hl, hj⟩ | ⟨rfl, h0⟩
    · exact hi.own j oj gj c hj (gm_app_old (by rw [hi.len]; exact hl) hgj) hc
    · cases h0
      rw [← hi.len, gm_app_new] at hgj
      cases hgj
      exact hown c hc
  · rcases hget_app h1 with ⟨hl1, h1⟩ | ⟨rfl, h0⟩
    · have h5' := gm_app_old (by rw [hi.len]; exact hl1) h5
      rcases hget_app h2 with ⟨hl2, h2⟩ | ⟨rfl, h0⟩
      · exact hi.dist i j oi oj gi gj b c hne h1 h2 h3 h4 h5' (gm_app_old (by rw [hi.len]; exact hl2) h6) h7 h8
      · cases h0
        rw [← hi.len, gm_app_new] at h6
        cases h6
        exact hd h4 c h8 i oi gi b h1 h3 h5' h7
    · cases h0
      rw [← hi.len, gm_app_new] at h5
      cases h5
      rcases hget_app h2 with ⟨hl2, h2⟩ | ⟨rfl, h0⟩
      · exact fun e => hd h3 b h7 j oj gj c h2 h4 (gm_app_old (by rw [hi.len]; exact hl2) h6) h8 e.symm
      · exact absurd rfl hne

def ghOf (b : Option (Nat × Nat)) (sz : Nat) (es : List LV) : Gh where
  addr := b
  sz := sz
  ln := fun off => match dropW es off with | some (.seq _ _ l :: _) => l.length | _ => 0
  ew := fun off => match dropW es off with | some (.seq k _ _ :: _) => k.w | _ => 0

theorem ghOf_seq (b : Option (Nat × Nat)) (sz : Nat) (es : List LV) : SeqG (ghOf b sz es) es := by
  intro off k n l r hd
  simp [ghOf, hd]

def pushB (w : World) (ob : Obj) : World := { w with heap := w.heap.push ob }

theorem ext_push (w : World) (ob : Obj) : Ext w (pushB w ob) :=
  ⟨⟨rfl, rfl, rfl⟩, by simp [pushB], fun b hb => by simp only [pushB]; rw [Array.getElem?_push, if_neg (by omega)]⟩

theorem push_get (w : World) (ob : Obj) : (pushB w ob).heap[w.heap.size]? = some ob := by
  show (w.heap.push ob)[w.heap.size]? = some ob
  simp

theorem Inv.block_lt (hi : Inv G m h w) {j : Nat} {oj : Ob} {gj : Gh} {c : Nat × Nat} (hj : hget h j = some oj) (hg : m[j]? = some gj) (hc : gj.addr = some c) : c.1 < w.heap.size := by
  obtain ⟨_, cs, _, hp⟩ := hi.obs j oj gj hj hg
  rcases hp with ⟨_, h1⟩ | ⟨b, blk, t, fr, h1, h2, _⟩
  · rw [hc] at h1; cases h1
  · rw [hc] at h1; cases h1
    exact (Array.getElem?_eq_some_iff.1 h2).1

/-- A new block, and its object. -/
theorem Inv.new' (hi : Inv G m h w) (e : Ext w w') {nb : Nat} (hnb : w.heap.size ≤ nb) {es : List LV} {cs : List Value} {blk : Array Value} {t : TypeId} {fr : Nat × Nat} (hg : w'.heap[nb]? = some (.cells blk t fr))
    (ho : OCells m es cs) (hle : cs.length ≤ blk.size) (hc : ∀ j, j < cs.length → blk[j]? = cs[j]?) (hf : FrOk fr blk.size) :
    Inv G (m ++ [ghOf (some (nb, 0)) blk.size es]) (h ++ [some ⟨false, es⟩]) w' := by
  refine (hi.ext e).add ⟨ghOf_seq _ _ _, cs, ho.mono (pre_append m _), .inr ⟨_, blk, t, fr, rfl, hg, rfl, ?_, fun j hj => ?_, fun _ => hf⟩⟩ (fun b hb => ?_) (fun _ b hb j oj gj c hj _ hgj hc => ?_)
  · simpa [ghOf] using hle
  · simpa using hc j hj
  · cases hb; exact .inr (Nat.le_trans hi.size hnb)
  · cases hb
    have := hi.block_lt hj hgj hc
    simp only; omega

theorem Inv.new (hi : Inv G m h w) {es : List LV} {cs : List Value} {blk : Array Value} {t : TypeId} {fr : Nat × Nat} (ho : OCells m es cs) (hle : cs.length ≤ blk.size)
    (hc : ∀ j, j < cs.length → blk[j]? = cs[j]?) (hf : FrOk fr blk.size) :
    Inv G (m ++ [ghOf (some (w.heap.size, 0)) blk.size es]) (h ++ [some ⟨false, es⟩]) (pushB w (.cells blk t fr)) :=
  hi.new' (ext_push w _) (Nat.le_refl _) (push_get w _) ho hle hc hf

/-- What is shown of an operation that makes, or turns, memory. -/
def EffOK (P : Program) (G : Ctx) (m : GM) (w : World) (a : Act) (o : Oper) (K : AV → Heap → Option Res) (r : Res) : Prop :=
  ∃ av h', K av h' = some r ∧ ∃ n v w' m', (execOp a.eval o).run P w = .ok n w' ∧ (n = .value v ∨ (n = .skip ∧ v = undef)) ∧ Inv G m' h' w' ∧ Pre m m' ∧ (isTop av ∨ AVRel m' av v) ∧
    (isDs o.op = false → Ext w w')

theorem eff_alloc (hi : Inv G m h w) {t : TypeId} (ho : o.op = .alloc t) (hev : evEff P o env h K = some r) : EffOK P G m w a o K r := by
  simp only [evEff, ho] at hev
  split at hev
  · rename_i es hz
    obtain ⟨i, z, hin, hzz, hoc⟩ := zeroE_cells (m := m) hz
    refine ⟨_, _, hev, _, .pointer (some (at_ (w.heap.size, 0) 0)), pushB w (.cells z.cells t), _, ?_, .inl rfl,
      hi.new (t := t) (fr := (0, 0)) (blk := z.cells) hoc (by simp) (fun j hj => by simp) (.inl rfl), pre_append _ _, .inr ⟨_, _, by rw [← hi.len]; exact gm_app_new, rfl, rfl⟩, fun _ => ext_push w _⟩
    simp [execOp, ho, Instr.alloc, zero_run hin hzz, newVar, newRow, newObj, Sem.run, pushB, at_]
  · cases hev

theorem eff_box (hi : Inv G m h w) (he : ERel m env a) {t : TypeId} {x : Operand} (ho : o.op = .box t x) (hev : evEff P o env h K = some r) : EffOK P G m w a o K r := by
  simp only [evEff, ho] at hev
  split at hev
  · rename_i v hx
    have hv : TVRel m v (a.eval x) := opd_rel he hx
    refine ⟨_, _, hev, _, .pointer (some (at_ (w.heap.size, 0) 0)), pushB w (.cells (a.eval x).cells t), _, ?_, .inl rfl,
      hi.new (t := t) (fr := (0, 0)) (blk := (a.eval x).cells) hv.ents (by simp) (fun j hj => by simp) (.inl rfl), pre_append _ _, .inr ⟨_, _, by rw [← hi.len]; exact gm_app_new, rfl, rfl⟩, fun _ => ext_push w _⟩
    simp [execOp, ho, Instr.box, newVar, newRow, newObj, Sem.run, pushB, at_]
  · cases hev

/-- Cells that are stored one by one. -/
theorem run_storeCells_any {g o : Nat} {t : TypeId} {fr : Nat × Nat} : ∀ (vs : List Value) (i : Nat) (cur : Array Value) (w : World), w.heap[g]? = some (.cells cur t fr) → o + i + vs.length ≤ cur.size →
    (∀ v ∈ vs, leafV v) → (∀ j, j < cur.size → ¬ (fr.1 ≤ j ∧ j < fr.2)) →
    ∃ w' cur', (storeCells ⟨g, o, none⟩ vs i).run P w = .ok () w' ∧ OnlyB w w' g ∧ w'.heap[g]? = some (.cells cur' t fr) ∧ cur'.toList = cur.toList.take (o + i) ++ (vs ++ cur.toList.drop (o + i + vs.length)) := by
  intro vs
  induction vs with
  | nil => intro i cur w hg _ _ _; exact ⟨w, cur, by simp [storeCells], OnlyB.refl w g, hg, by simp⟩
  | cons v vs ih =>
    intro i cur w hg hle hlf hfr
    simp only [List.length_cons] at hle
    have hgs : g < w.heap.size := (Array.getElem?_eq_some_iff.1 hg).1
    have hcell : w.cell? ⟨g, o + i, none⟩ = some (cur[o + i]'(by omega)) := by
      simp only [World.cell?, hg]
      simp
    have hfz : w.frozen? ⟨g, o + i, none⟩ = false := by
      simp only [World.frozen?, hg]
      have := hfr (o + i) (by omega)
      simpa using this
    have hadd : (⟨g, o, none⟩ : Addr).add i = ⟨g, o + i, none⟩ := by
      have := add_at (g, o) 0 i
      simpa [at_] using this
    have hstore : (store ⟨g, o + i, none⟩ v).run P w = .ok () (w.setCell ⟨g, o + i, none⟩ v) := by
      have hlv := hlf v (List.mem_cons_self ..)
      cases v <;> first
        | exact hlv.elim
        | simp only [store, Sem.run, hcell, hfz, Bool.false_eq_true, if_false]
    have hset : (w.setCell ⟨g, o + i, none⟩ v).heap[g]? = some (.cells (cur.setIfInBounds (o + i) v) t fr) := by
      simp only [World.setCell, Array.getElem?_modify]
      simp [hg]
    have honly : OnlyB w (w.setCell ⟨g, o + i, none⟩ v) g :=
      ⟨⟨rfl, rfl, rfl⟩, by simp [World.setCell], fun b hb => by
        simp only [World.setCell, Array.getElem?_modify]
        rw [if_neg (by simpa using fun e => hb e.symm)]⟩
    obtain ⟨w2, cur2, h1, h2, h3, h4⟩ := ih (i + 1) _ _ hset (by simp; omega) (fun u hu => hlf u (List.mem_cons_of_mem _ hu)) (by simpa using hfr)
    refine ⟨w2, cur2, ?_, ⟨honly.str.trans h2.str, h2.size.trans honly.size, fun b hb => (h2.block b hb).trans (honly.block b hb)⟩, h3, ?_⟩
    · simp only [storeCells, Sem.run_bind, hadd, hstore, Result.andThen_ok]
      exact h1
    · rw [h4]
      simp only [Array.toList_setIfInBounds, List.length_cons]
      rw [List.drop_set_of_lt (by omega)]
      have h5 : o + i < cur.toList.length := by simp; omega
      rw [show o + (i + 1) = o + i + 1 by omega, List.take_succ_eq_append_getElem (by simpa using h5), List.take_set]
      rw [List.set_eq_of_length_le (by rw [List.length_take]; omega)]
      simp only [List.getElem_set_self, List.append_assoc, List.cons_append, List.nil_append]
      congr 3
      congr 1; omega

end
end Go.Proofs.Ytlokielmpdjedaa.Ev
