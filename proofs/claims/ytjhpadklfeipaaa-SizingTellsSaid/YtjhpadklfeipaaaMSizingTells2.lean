/- Merged: EvS8, EvS9, EvS10, EvS11, EvS12, EvS13, EvS14, EvS15. -/
import Derived.Test.YtjhpadklfeipaaaMSizingTells1
import Derived.OrdersHeld
import Derived.TacticsIn
section
namespace Go.Proofs.Ytjhpadklfeipaaa.Ev
open Go
set_option linter.unusedVariables false
set_option linter.unusedSimpArgs false
set_option linter.unusedSectionVars false
section
variable [FZ]
variable {P : Program}
structure OnlyB (w w' : World) (g : Nat) : Prop where
  str : Str w w'
  size : w'.heap.size = w.heap.size
  block : ∀ b, b ≠ g → w'.heap[b]? = w.heap[b]?
theorem OnlyB.refl (w : World) (g : Nat) : OnlyB w w g := ⟨Str.refl w, rfl, fun _ _ => rfl⟩
section
variable {G : Ctx} {m : GM} {h : Heap} {w w' : World} {a : Act} {env : Env} {o : Oper} {K : AV → Heap → Option Res} {r : Res}
theorem Placed.only {g : Gh} {ro : Bool} {cs : List Value} {c : Nat} (e : OnlyB w w' c) (hne : ∀ b, g.addr = some b → b.1 ≠ c) (h : Placed g w ro cs) : Placed g w' ro cs := by
  rcases h with h | ⟨b, blk, t, fr, h1, h2, h3⟩
  · exact .inl h
  · exact .inr ⟨b, blk, t, fr, h1, by rw [e.block _ (hne b h1)]; exact h2, h3⟩
theorem hget_hset {i j : Nat} {o : Option Ob} {ob : Ob} (h1 : hget (hset h i o) j = some ob) : (j = i ∧ o = some ob) ∨ (j ≠ i ∧ hget h j = some ob) := by
  by_cases hj : i = j
  · subst hj
    by_cases hl : i < h.length
    · rw [hget_hset_same hl] at h1; exact .inl ⟨rfl, h1⟩
    · have := hget_lt h1
      rw [hset_length] at this
      exact absurd this hl
  · rw [hget_hset_ne hj] at h1; exact .inr ⟨fun e => hj e.symm, h1⟩
theorem Inv.apart (hi : Inv G m h w) {id j : Nat} {es : List LV} {ob : Ob} {g gj : Gh} {b c : Nat × Nat} (hid : hget h id = some ⟨false, es⟩) (hg : m[id]? = some g) (hb : g.addr = some b)
    (hne : j ≠ id) (hj : hget h j = some ob) (hgj : m[j]? = some gj) (hc : gj.addr = some c) : c.1 ≠ b.1 := by
  cases hro : ob.ro with
  | false => exact hi.dist j id ob ⟨false, es⟩ gj g c b hne hj hid hro rfl hgj hg hc hb
  | true =>
    have h1 := hi.own id _ g b hid hg hb
    have h2 := hi.own j ob gj c hj hgj hc
    rw [hro] at h2
    simp only [Own, if_true, Bool.false_eq_true, if_false] at h1 h2
    intro e
    rw [e] at h2
    rcases h1 with h1 | h1
    · exact h2.1 h1
    · omega
theorem Inv.cellsAt (hi : Inv G m h w) {id : Nat} {ob : Ob} {g : Gh} {b : Nat × Nat} (hid : hget h id = some ob) (hg : m[id]? = some g) (hb : g.addr = some b) : ∃ blk t fr, w.heap[b.1]? = some (.cells blk t fr) := by
  obtain ⟨_, cs, _, hp⟩ := hi.obs id ob g hid hg
  rcases hp with ⟨_, h1⟩ | ⟨b', blk, t, fr, h1, h2, _⟩
  · rw [hb] at h1; cases h1
  · rw [hb] at h1; cases h1
    exact ⟨_, _, _, h2⟩
theorem Inv.ghost_only (hi : Inv G m h w) {id : Nat} {ob : Ob} {g : Gh} {b : Nat × Nat} (hid : hget h id = some ob) (hg : m[id]? = some g) (hb : g.addr = some b) (e : OnlyB w w' b.1) {x : Nat × Nat × Obj} (hx : x ∈ G.gh) {ox : Ob} (ho : hget h x.1 = some ox) :
    w'.heap[x.2.1]? = some x.2.2 ∧ x.2.2.isCells = false := by
  obtain ⟨h1, h2⟩ := (hi.gh x hx).2 ox ho
  obtain ⟨blk, t, fr, h3⟩ := hi.cellsAt hid hg hb
  refine ⟨(e.block _ fun he => ?_).trans h1, h2⟩
  rw [he, h3] at h1
  rw [← Option.some.inj h1] at h2
  cases h2
theorem Inv.kill (hi : Inv G m h w) {id : Nat} {es : List LV} {g : Gh} {b : Nat × Nat} (hid : hget h id = some ⟨false, es⟩) (hg : m[id]? = some g) (hb : g.addr = some b) (e : OnlyB w w' b.1) :
    Inv G m (hset h id none) w' := by
  refine ⟨by rw [hset_length]; exact hi.len, fun j ob gj hj hgj => ?_, fun j ob gj c hj hgj hc => ?_, fun i j oi oj gi gj b c hne h1 h2 h3 h4 h5 h6 h7 h8 => ?_, hi.str.trans e.str, by rw [e.size]; exact hi.size, fun c hc hO => ?_, hi.fz, fun x hx => ⟨by rw [hset_length]; exact (hi.gh x hx).1, fun ox ho => ?_⟩⟩
  rotate_right
  · rcases hget_hset ho with ⟨_, h0⟩ | ⟨_, ho⟩
    · cases h0
    · exact hi.ghost_only hid hg hb e hx ho
  · rcases hget_hset hj with ⟨_, h0⟩ | ⟨hne, hj⟩
    · cases h0
    · obtain ⟨hs, cs, ho, hp⟩ := hi.obs j ob gj hj hgj
      exact ⟨hs, cs, ho, hp.only e fun c hc => hi.apart hid hg hb hne hj hgj hc⟩
  · rcases hget_hset hj with ⟨_, h0⟩ | ⟨hne, hj⟩
    · cases h0
    · exact hi.own j ob gj c hj hgj hc
  · rcases hget_hset h1 with ⟨_, h0⟩ | ⟨_, h1⟩
    · cases h0
    rcases hget_hset h2 with ⟨_, h0⟩ | ⟨_, h2⟩
    · cases h0
    exact hi.dist i j oi oj gi gj b c hne h1 h2 h3 h4 h5 h6 h7 h8
  · have h1 := hi.own id _ g b hid hg hb
    simp only [Own, Bool.false_eq_true, if_false] at h1
    have : c ≠ b.1 := by
      intro e
      subst e
      rcases h1 with h1 | h1
      · exact hO h1
      · omega
    rw [e.block c this]
    exact hi.frame c hc hO
theorem Inv.drop (hi : Inv G m h w) (id : Nat) : Inv G m (hset h id none) w := by
  refine ⟨by rw [hset_length]; exact hi.len, fun j ob gj hj hgj => ?_, fun j ob gj c hj hgj hc => ?_, fun i j oi oj gi gj b c hne h1 h2 h3 h4 h5 h6 h7 h8 => ?_, hi.str, hi.size, hi.frame, hi.fz, fun x hx => ⟨by rw [hset_length]; exact (hi.gh x hx).1, fun ox ho => ?_⟩⟩
  rotate_right
  · rcases hget_hset ho with ⟨_, h0⟩ | ⟨_, ho⟩
    · cases h0
    · exact (hi.gh x hx).2 ox ho
  · rcases hget_hset hj with ⟨_, h0⟩ | ⟨hne, hj⟩
    · cases h0
    · exact hi.obs j ob gj hj hgj
  · rcases hget_hset hj with ⟨_, h0⟩ | ⟨hne, hj⟩
    · cases h0
    · exact hi.own j ob gj c hj hgj hc
  · rcases hget_hset h1 with ⟨_, h0⟩ | ⟨_, h1⟩
    · cases h0
    rcases hget_hset h2 with ⟨_, h0⟩ | ⟨_, h2⟩
    · cases h0
    exact hi.dist i j oi oj gi gj b c hne h1 h2 h3 h4 h5 h6 h7 h8
theorem Inv.put (hi : Inv G m h w) {id : Nat} {es es' : List LV} {g : Gh} {b : Nat × Nat} (hid : hget h id = some ⟨false, es⟩) (hg : m[id]? = some g) (hb : g.addr = some b) (e : OnlyB w w' b.1)
    (ho : ObRel m g w' ⟨false, es'⟩) : Inv G m (hset h id (some ⟨false, es'⟩)) w' := by
  have hk := hi.kill hid hg hb e
  refine ⟨by rw [hset_length]; exact hi.len, fun j ob gj hj hgj => ?_, fun j ob gj c hj hgj hc => ?_, fun i j oi oj gi gj b' c hne h1 h2 h3 h4 h5 h6 h7 h8 => ?_, hk.str, hk.size, hk.frame, hk.fz, fun x hx => ⟨by rw [hset_length]; exact (hi.gh x hx).1, fun ox ho => ?_⟩⟩
  rotate_right
  · rcases hget_hset ho with ⟨he, _⟩ | ⟨_, ho⟩
    · exact hi.ghost_only hid hg hb e hx (by rw [he]; exact hid)
    · exact hi.ghost_only hid hg hb e hx ho
  · rcases hget_hset hj with ⟨rfl, h0⟩ | ⟨hne, hj⟩
    · cases h0; rw [hg] at hgj; cases hgj; exact ho
    · exact hk.obs j ob gj (by rw [hget_hset_ne (fun e => hne e.symm)]; exact hj) hgj
  · rcases hget_hset hj with ⟨rfl, h0⟩ | ⟨hne, hj⟩
    · cases h0; rw [hg] at hgj; cases hgj; exact hi.own j ⟨false, es⟩ g c hid hg hc
    · exact hi.own j ob gj c hj hgj hc
  · rcases hget_hset h1 with ⟨e1, h0⟩ | ⟨n1, q1⟩
    · rcases hget_hset h2 with ⟨e2, _⟩ | ⟨n2, q2⟩
      · exact absurd (e1.trans e2.symm) hne
      · exact hi.dist i j _ oj gi gj b' c hne (by rw [e1]; exact hid) q2 rfl h4 h5 h6 h7 h8
    · rcases hget_hset h2 with ⟨e2, h0⟩ | ⟨n2, q2⟩
      · exact hi.dist i j oi _ gi gj b' c hne q1 (by rw [e2]; exact hid) h3 rfl h5 h6 h7 h8
      · exact hi.dist i j oi oj gi gj b' c hne q1 q2 h3 h4 h5 h6 h7 h8
theorem hget_app {x : Option Ob} {j : Nat} {ob : Ob} (h1 : hget (h ++ [x]) j = some ob) : (j < h.length ∧ hget h j = some ob) ∨ (j = h.length ∧ x = some ob) := by
  by_cases hj : j < h.length
  · rw [hget_append_left hj] at h1; exact .inl ⟨hj, h1⟩
  · rw [hget_append_right (by omega)] at h1
    have hl := hget_lt h1
    simp only [List.length_singleton] at hl
    have : j - h.length = 0 := by omega
    rw [this] at h1
    exact .inr ⟨by omega, h1⟩
theorem gm_app_old {g gj : Gh} {j : Nat} (hj : j < m.length) (h1 : (m ++ [g])[j]? = some gj) : m[j]? = some gj := by
  rw [List.getElem?_append_left hj] at h1; exact h1
theorem gm_app_new {g : Gh} : (m ++ [g])[m.length]? = some g := by simp
theorem Inv.add (hi : Inv G m h w) {g : Gh} {ob : Ob} (ho : ObRel (m ++ [g]) g w ob) (hown : ∀ b, g.addr = some b → Own G ob.ro b.1)
    (hd : ob.ro = false → ∀ b, g.addr = some b → ∀ j oj gj c, hget h j = some oj → oj.ro = false → m[j]? = some gj → gj.addr = some c → c.1 ≠ b.1) :
    Inv G (m ++ [g]) (h ++ [some ob]) w := by
  refine ⟨by simp [hi.len], fun j oj gj hj hgj => ?_, fun j oj gj c hj hgj hc => ?_, fun i j oi oj gi gj b c hne h1 h2 h3 h4 h5 h6 h7 h8 => ?_, hi.str, hi.size, hi.frame, hi.fz, fun x hx => ⟨by have := (hi.gh x hx).1; simp; omega, fun ox ho => ?_⟩⟩
  rotate_right
  · rcases hget_app ho with ⟨_, ho⟩ | ⟨he, _⟩
    · exact (hi.gh x hx).2 ox ho
    · have := (hi.gh x hx).1; omega
  · rcases hget_app hj with ⟨hl, hj⟩ | ⟨rfl, h0⟩
    · obtain ⟨hs, cs, hoc, hp⟩ := hi.obs j oj gj hj (gm_app_old (by rw [hi.len]; exact hl) hgj)
      exact ⟨hs, cs, hoc.mono (pre_append m _), hp⟩
    · cases h0
      rw [← hi.len, gm_app_new] at hgj
      cases hgj
      exact ho
  · rcases hget_app hj with ⟨hl, hj⟩ | ⟨rfl, h0⟩
    · exact hi.own j oj gj c hj (gm_app_old (by rw [hi.len]; exact hl) hgj) hc
    · cases h0
      rw [← hi.len, gm_app_new] at hgj
      cases hgj
      exact hown c hc
  · rcases hget_app h1 with ⟨hl1, h1⟩ | ⟨rfl, h0⟩
    · have h5' := gm_app_old (by rw [hi.len]; exact hl1) h5
      rcases hget_app h2 with ⟨hl2, h2⟩ | ⟨rfl, h0⟩
      · exact hi.dist i j oi oj gi gj b c hne h1 h2 h3 h4 h5' (gm_app_old (by rw [hi.len]; exact hl2) h6) h7 h8
      · cases h0
        rw [← hi.len, gm_app_new] at h6
        cases h6
        exact hd h4 c h8 i oi gi b h1 h3 h5' h7
    · cases h0
      rw [← hi.len, gm_app_new] at h5
      cases h5
      rcases hget_app h2 with ⟨hl2, h2⟩ | ⟨rfl, h0⟩
      · exact fun e => hd h3 b h7 j oj gj c h2 h4 (gm_app_old (by rw [hi.len]; exact hl2) h6) h8 e.symm
      · exact absurd rfl hne
def ghOf (b : Option (Nat × Nat)) (sz : Nat) (es : List LV) : Gh where
  addr := b
  sz := sz
  ln := fun off => match dropW es off with | some (.seq _ _ l :: _) => l.length | _ => 0
  ew := fun off => match dropW es off with | some (.seq k _ _ :: _) => k.w | _ => 0
  blk := none
theorem ghOf_seq (b : Option (Nat × Nat)) (sz : Nat) (es : List LV) : SeqG (ghOf b sz es) es := by
  intro off k n l r hd
  simp [ghOf, hd]
def pushB (w : World) (ob : Obj) : World := { w with heap := w.heap.push ob }
theorem ext_push (w : World) (ob : Obj) : Ext w (pushB w ob) :=
  ⟨⟨rfl, rfl, rfl⟩, by simp [pushB], fun b hb => by simp only [pushB]; rw [Array.getElem?_push, if_neg (by omega)]⟩
theorem push_get (w : World) (ob : Obj) : (pushB w ob).heap[w.heap.size]? = some ob := by
  show (w.heap.push ob)[w.heap.size]? = some ob
  simp
theorem Inv.block_lt (hi : Inv G m h w) {j : Nat} {oj : Ob} {gj : Gh} {c : Nat × Nat} (hj : hget h j = some oj) (hg : m[j]? = some gj) (hc : gj.addr = some c) : c.1 < w.heap.size := by
  obtain ⟨_, cs, _, hp⟩ := hi.obs j oj gj hj hg
  rcases hp with ⟨_, h1⟩ | ⟨b, blk, t, fr, h1, h2, _⟩
  · rw [hc] at h1; cases h1
  · rw [hc] at h1; cases h1
    exact (Array.getElem?_eq_some_iff.1 h2).1
theorem Inv.new' (hi : Inv G m h w) (e : Ext w w') {nb : Nat} (hnb : w.heap.size ≤ nb) {es : List LV} {cs : List Value} {blk : Array Value} {t : TypeId} {fr : Nat × Nat} (hg : w'.heap[nb]? = some (.cells blk t fr))
    (ho : OCells m es cs) (hle : cs.length ≤ blk.size) (hc : ∀ j, j < cs.length → blk[j]? = cs[j]?) (hf : FrOk fr blk.size) :
    Inv G (m ++ [ghOf (some (nb, 0)) blk.size es]) (h ++ [some ⟨false, es⟩]) w' := by
  refine (hi.ext e).add ⟨ghOf_seq _ _ _, cs, ho.mono (pre_append m _), .inr ⟨_, blk, t, fr, rfl, hg, rfl, ?_, fun j hj => ?_, fun _ => hf⟩⟩ (fun b hb => ?_) (fun _ b hb j oj gj c hj _ hgj hc => ?_)
  · simpa [ghOf] using hle
  · simpa using hc j hj
  · cases hb; exact .inr (Nat.le_trans hi.size hnb)
  · cases hb
    have := hi.block_lt hj hgj hc
    simp only; omega
theorem Inv.new (hi : Inv G m h w) {es : List LV} {cs : List Value} {blk : Array Value} {t : TypeId} {fr : Nat × Nat} (ho : OCells m es cs) (hle : cs.length ≤ blk.size)
    (hc : ∀ j, j < cs.length → blk[j]? = cs[j]?) (hf : FrOk fr blk.size) :
    Inv G (m ++ [ghOf (some (w.heap.size, 0)) blk.size es]) (h ++ [some ⟨false, es⟩]) (pushB w (.cells blk t fr)) :=
  hi.new' (ext_push w _) (Nat.le_refl _) (push_get w _) ho hle hc hf
def EffOK (P : Program) (G : Ctx) (m : GM) (w : World) (a : Act) (o : Oper) (K : AV → Heap → Option Res) (r : Res) : Prop :=
  ∃ av h', K av h' = some r ∧ ∃ n v w' m', (execOp a.eval o).run P w = .ok n w' ∧ (n = .value v ∨ (n = .skip ∧ v = undef)) ∧ Inv G m' h' w' ∧ Pre m m' ∧ (isTop av ∨ AVRel m' av v) ∧
    (isDs o.op = false → Ext w w')
theorem eff_alloc (hi : Inv G m h w) {t : TypeId} (ho : o.op = .alloc t) (hev : evEff P o env h K = some r) : EffOK P G m w a o K r := by
  simp only [evEff, ho] at hev
  split at hev
  · rename_i es hz
    obtain ⟨i, z, hin, hzz, hoc⟩ := zeroE_cells (m := m) hz
    refine ⟨_, _, hev, _, .pointer (some (at_ (w.heap.size, 0) 0)), pushB w (.cells z.cells t), _, ?_, .inl rfl,
      hi.new (t := t) (fr := (0, 0)) (blk := z.cells) hoc (by simp) (fun j hj => by simp) (.inl rfl), pre_append _ _, .inr ⟨_, _, by rw [← hi.len]; exact gm_app_new, rfl, rfl⟩, fun _ => ext_push w _⟩
    simp [execOp, ho, Instr.alloc, zero_run hin hzz, newVar, newRow, newObj, Sem.run, pushB, at_]
  · cases hev
theorem eff_box (hi : Inv G m h w) (he : ERel G m env a) {t : TypeId} {x : Operand} (ho : o.op = .box t x) (hev : evEff P o env h K = some r) : EffOK P G m w a o K r := by
  simp only [evEff, ho] at hev
  split at hev
  · rename_i v hx
    have hv : TVRel m v (a.eval x) := opd_rel he hx
    refine ⟨_, _, hev, _, .pointer (some (at_ (w.heap.size, 0) 0)), pushB w (.cells (a.eval x).cells t), _, ?_, .inl rfl,
      hi.new (t := t) (fr := (0, 0)) (blk := (a.eval x).cells) hv.ents (by simp) (fun j hj => by simp) (.inl rfl), pre_append _ _, .inr ⟨_, _, by rw [← hi.len]; exact gm_app_new, rfl, rfl⟩, fun _ => ext_push w _⟩
    simp [execOp, ho, Instr.box, newVar, newRow, newObj, Sem.run, pushB, at_]
  · cases hev
theorem run_storeCells_any {g o : Nat} {t : TypeId} {fr : Nat × Nat} : ∀ (vs : List Value) (i : Nat) (cur : Array Value) (w : World), w.heap[g]? = some (.cells cur t fr) → o + i + vs.length ≤ cur.size →
    (∀ v ∈ vs, leafV v) → (∀ j, j < cur.size → ¬ (fr.1 ≤ j ∧ j < fr.2)) →
    ∃ w' cur', (storeCells ⟨g, o, none⟩ vs i).run P w = .ok () w' ∧ OnlyB w w' g ∧ w'.heap[g]? = some (.cells cur' t fr) ∧ cur'.toList = cur.toList.take (o + i) ++ (vs ++ cur.toList.drop (o + i + vs.length)) := by
  intro vs
  induction vs with
  | nil => intro i cur w hg _ _ _; exact ⟨w, cur, by simp [storeCells], OnlyB.refl w g, hg, by simp⟩
  | cons v vs ih =>
    intro i cur w hg hle hlf hfr
    simp only [List.length_cons] at hle
    have hgs : g < w.heap.size := (Array.getElem?_eq_some_iff.1 hg).1
    have hcell : w.cell? ⟨g, o + i, none⟩ = some (cur[o + i]'(by omega)) := by
      simp only [World.cell?, hg]
      simp
    have hfz : w.frozen? ⟨g, o + i, none⟩ = false := by
      simp only [World.frozen?, hg]
      have := hfr (o + i) (by omega)
      simpa using this
    have hadd : (⟨g, o, none⟩ : Addr).add i = ⟨g, o + i, none⟩ := by
      have := add_at (g, o) 0 i
      simpa [at_] using this
    have hstore : (store ⟨g, o + i, none⟩ v).run P w = .ok () (w.setCell ⟨g, o + i, none⟩ v) := by
      have hlv := hlf v (List.mem_cons_self ..)
      cases v <;> first
        | exact hlv.elim
        | simp only [store, Sem.run, hcell, hfz, Bool.false_eq_true, if_false]
    have hset : (w.setCell ⟨g, o + i, none⟩ v).heap[g]? = some (.cells (cur.setIfInBounds (o + i) v) t fr) := by
      simp only [World.setCell, Array.getElem?_modify]
      simp [hg]
    have honly : OnlyB w (w.setCell ⟨g, o + i, none⟩ v) g :=
      ⟨⟨rfl, rfl, rfl⟩, by simp [World.setCell], fun b hb => by
        simp only [World.setCell, Array.getElem?_modify]
        rw [if_neg (by simpa using fun e => hb e.symm)]⟩
    obtain ⟨w2, cur2, h1, h2, h3, h4⟩ := ih (i + 1) _ _ hset (by simp; omega) (fun u hu => hlf u (List.mem_cons_of_mem _ hu)) (by simpa using hfr)
    refine ⟨w2, cur2, ?_, ⟨honly.str.trans h2.str, h2.size.trans honly.size, fun b hb => (h2.block b hb).trans (honly.block b hb)⟩, h3, ?_⟩
    · simp only [storeCells, Sem.run_bind, hadd, hstore, Result.andThen_ok]
      exact h1
    · rw [h4]
      simp only [Array.toList_setIfInBounds, List.length_cons]
      rw [List.drop_set_of_lt (by omega)]
      have h5 : o + i < cur.toList.length := by simp; omega
      rw [show o + (i + 1) = o + i + 1 by omega, List.take_succ_eq_append_getElem (by simpa using h5), List.take_set]
      rw [List.set_eq_of_length_le (by rw [List.length_take]; omega)]
      simp only [List.getElem_set_self, List.append_assoc, List.cons_append, List.nil_append]
      congr 3
      congr 1; omega
end
end
section
variable [FZ]
variable {P : Program}
def splice {α : Type} (l : List α) (a : Nat) (ns : List α) : List α := l.take a ++ (ns ++ l.drop (a + ns.length))
theorem splice_length {α : Type} {l : List α} {a : Nat} {ns : List α} (h : a + ns.length ≤ l.length) : (splice l a ns).length = l.length := by
  simp only [splice, List.length_append, List.length_take, List.length_drop]; omega
theorem splice_get {α : Type} {l : List α} {a : Nat} {ns : List α} (h : a + ns.length ≤ l.length) (j : Nat) :
    (splice l a ns)[j]? = if j < a then l[j]? else if j < a + ns.length then ns[j - a]? else l[j]? := by
  simp only [splice]
  have h1 : (l.take a).length = a := by rw [List.length_take]; omega
  by_cases c1 : j < a
  · rw [if_pos c1, List.getElem?_append_left (by omega), List.getElem?_take, if_pos c1]
  · rw [if_neg c1, List.getElem?_append_right (by omega), h1]
    by_cases c2 : j < a + ns.length
    · rw [if_pos c2, List.getElem?_append_left (by omega)]
    · rw [if_neg c2, List.getElem?_append_right (by omega), List.getElem?_drop]
      congr 1; omega
theorem shp_w (x y : LV) (h : shp x = shp y) : x.w = y.w := by
  have : ∀ z : LV, z.w = match shp z with | some (k, n) => n * k.w | none => 1 := fun z => by cases z <;> rfl
  rw [this x, this y, h]
theorem dropW_shp : ∀ {l l' : List LV}, shps l = shps l' → ∀ {n : Nat} {r : List LV}, dropW l n = some r → ∃ r', dropW l' n = some r' ∧ shps r = shps r' := by
  intro l
  induction l with
  | nil =>
    intro l' hs n r hd
    cases l' with
    | nil => exact ⟨r, hd, rfl⟩
    | cons y l' => simp [shps] at hs
  | cons x l ih =>
    intro l' hs n r hd
    cases l' with
    | nil => simp [shps] at hs
    | cons y l' =>
      simp only [shps, List.cons.injEq] at hs
      cases n with
      | zero =>
        simp only [dropW, Option.some.injEq] at hd
        subst hd
        exact ⟨_, rfl, by simp [shps, hs.1, hs.2]⟩
      | succ n =>
        simp only [dropW] at hd ⊢
        rw [shp_w x y hs.1] at hd
        split at hd
        · rename_i hc
          rw [if_pos hc]
          exact ih hs.2 hd
        · cases hd
theorem allPos_drop : ∀ {l : List LV}, allPos l = true → ∀ {n : Nat} {r : List LV}, dropW l n = some r → allPos r = true := by
  intro l
  induction l with
  | nil => intro h n r hd; cases n <;> simp [dropW] at hd; subst hd; rfl
  | cons x l ih =>
    intro h n r hd
    cases n with
    | zero => simp only [dropW, Option.some.injEq] at hd; subst hd; exact h
    | succ n =>
      simp only [dropW] at hd
      simp only [allPos] at h
      split at h
      · split at hd
        · exact ih h hd
        · cases hd
      · cases h
theorem seq_pos {k : EK} {n : Nat} {l : List k.den} {r : List LV} (h : allPos (.seq k n l :: r) = true) : 0 < n := by
  simp only [allPos] at h
  by_cases hp : 0 < (LV.seq k n l).w
  · exact Nat.pos_of_ne_zero fun e => by subst e; simp [LV.w] at hp
  · rw [if_neg hp] at h; cases h
theorem seqG_shape {m m' : GM} {g : Gh} {es es' : List LV} {cs cs' : List Value} (hs : shps es' = shps es) (hp : allPos es = true) (ho : OCells m es cs) (ho' : OCells m' es' cs') (hg : SeqG g es) : SeqG g es' := by
  intro off k n l r hd
  obtain ⟨r0, hd0, hr⟩ := dropW_shp hs hd
  cases r0 with
  | nil => simp [shps] at hr
  | cons y r0 =>
    simp only [shps, shp, List.cons.injEq] at hr
    cases y
    case seq k0 n0 l0 =>
      simp only [Option.some.injEq, Prod.mk.injEq] at hr
      obtain ⟨⟨rfl, rfl⟩, _⟩ := hr
      have hpos := seq_pos (allPos_drop hp hd0)
      obtain ⟨h1, h2⟩ := hg off _ _ _ _ hd0
      obtain ⟨_, q1⟩ := dropW_cells hd0 ho
      obtain ⟨_, _, _, ⟨e1, _⟩, _⟩ := q1
      obtain ⟨_, q2⟩ := dropW_cells hd ho'
      obtain ⟨_, _, _, ⟨e2, _⟩, _⟩ := q2
      exact ⟨by rw [e2.resolve_left (by omega), ← h1, e1.resolve_left (by omega)], h2⟩
    all_goals (exact absurd hr.1 (by simp))
def xsh : LV → Option (EK × Nat × Nat)
  | .seq k n l => some (k, n, l.length)
  | _ => none
theorem dropW_xsh : ∀ {l l' : List LV}, l.map xsh = l'.map xsh → ∀ {n : Nat} {r : List LV}, dropW l n = some r → ∃ r', dropW l' n = some r' ∧ r.map xsh = r'.map xsh := by
  intro l
  induction l with
  | nil =>
    intro l' hs n r hd
    cases l' with
    | nil => exact ⟨r, hd, rfl⟩
    | cons y l' => simp at hs
  | cons x l ih =>
    intro l' hs n r hd
    cases l' with
    | nil => simp at hs
    | cons y l' =>
      simp only [List.map_cons, List.cons.injEq] at hs
      cases n with
      | zero =>
        simp only [dropW, Option.some.injEq] at hd
        subst hd
        exact ⟨_, rfl, by simp [hs.1, hs.2]⟩
      | succ n =>
        have hw : x.w = y.w := by
          have : ∀ z : LV, z.w = match xsh z with | some (k, n, _) => n * k.w | none => 1 := fun z => by cases z <;> rfl
          rw [this x, this y, hs.1]
        simp only [dropW] at hd ⊢
        rw [hw] at hd
        split at hd
        · rename_i hc
          rw [if_pos hc]
          exact ih hs.2 hd
        · cases hd
theorem seqG_xsh {g : Gh} {es es' : List LV} (hs : es'.map xsh = es.map xsh) (hg : SeqG g es) : SeqG g es' := by
  intro off k n l r hd
  obtain ⟨r0, hd0, hr⟩ := dropW_xsh hs hd
  cases r0 with
  | nil => simp at hr
  | cons y r0 =>
    simp only [List.map_cons, List.cons.injEq] at hr
    cases y
    case seq k0 n0 l0 =>
      simp only [xsh, Option.some.injEq, Prod.mk.injEq] at hr
      obtain ⟨⟨rfl, rfl, hl⟩, _⟩ := hr
      obtain ⟨h1, h2⟩ := hg off _ _ _ _ hd0
      exact ⟨by rw [hl, h1], h2⟩
    all_goals (exact absurd hr.1 (by simp [xsh]))
theorem take_drop : ∀ {l p q : List LV} {n : Nat}, takeW l n = some p → dropW l n = some q → l = p ++ q := by
  intro l
  induction l with
  | nil => intro p q n h1 h2; cases n <;> simp [takeW, dropW] at h1 h2; subst h1 h2; rfl
  | cons x l ih =>
    intro p q n h1 h2
    cases n with
    | zero => simp only [takeW, dropW, Option.some.injEq] at h1 h2; subst h1 h2; rfl
    | succ n =>
      simp only [takeW, dropW] at h1 h2
      split at h1
      · rename_i hc
        rw [if_pos hc] at h2
        split at h1
        · rename_i l' hl'
          simp only [Option.some.injEq] at h1
          subst h1
          rw [ih hl' h2]
          rfl
        · cases h1
      · cases h1
theorem splice_nested {α : Type} {A L C X ns : List α} {i : Nat} {o2 : Nat} (h1 : i + X.length ≤ L.length) (h2 : o2 + ns.length ≤ X.length) (hX : ∀ j, j < X.length → X[j]? = L[i + j]?) :
    A ++ (splice L i (splice X o2 ns) ++ C) = splice (A ++ (L ++ C)) (A.length + (i + o2)) ns := by
  have hl : (splice X o2 ns).length = X.length := splice_length h2
  have hL : (splice L i (splice X o2 ns)).length = L.length := splice_length (by rw [hl]; exact h1)
  apply List.ext_getElem?
  intro j
  rw [splice_get (by simp; omega)]
  by_cases c1 : j < A.length
  · rw [List.getElem?_append_left c1, if_pos (by omega), List.getElem?_append_left c1]
  · rw [List.getElem?_append_right (by omega), List.getElem?_append_right (l₁ := A) (l₂ := L ++ C) (by omega)]
    by_cases c2 : j - A.length < L.length
    · rw [List.getElem?_append_left (by omega), List.getElem?_append_left (by omega), splice_get (by rw [hl]; exact h1), hl]
      by_cases c3 : j - A.length < i
      · rw [if_pos c3, if_pos (by omega)]
      · rw [if_neg c3]
        by_cases c4 : j - A.length < i + X.length
        · rw [if_pos c4, splice_get h2]
          by_cases c5 : j - A.length - i < o2
          · rw [if_pos c5, if_pos (show j < A.length + (i + o2) by omega), hX _ (by omega)]
            congr 1; omega
          · rw [if_neg c5, if_neg (show ¬ j < A.length + (i + o2) by omega)]
            by_cases c6 : j - A.length - i < o2 + ns.length
            · rw [if_pos c6, if_pos (show j < A.length + (i + o2) + ns.length by omega)]
              congr 1; omega
            · rw [if_neg c6, if_neg (show ¬ j < A.length + (i + o2) + ns.length by omega), hX _ (by omega)]
              congr 1; omega
        · rw [if_neg c4, if_neg (by omega), if_neg (by omega)]
    · rw [List.getElem?_append_right (by omega), List.getElem?_append_right (by omega), hL, if_neg (by omega), if_neg (by omega)]
section
variable {G : Ctx} {m : GM} {h : Heap} {w w' : World} {a : Act} {env : Env} {o : Oper} {K : AV → Heap → Option Res} {r : Res}
theorem store_cells (hi : Inv G m h w) {id : Nat} {es : List LV} {g : Gh} {b : Nat × Nat} (hid : hget h id = some ⟨false, es⟩) (hg : m[id]? = some g) (hb : g.addr = some b)
    {cs : List Value} (hoc : OCells m es cs) (hpl : Placed g w false cs) {p : Nat} {ns : List Value} (hle : p + ns.length ≤ cs.length) (hlf : ∀ v ∈ ns, leafV v) :
    ∃ w', (storeCells (at_ b p) ns).run P w = .ok () w' ∧ OnlyB w w' b.1 ∧ Placed g w' false (splice cs p ns) := by
  rcases hpl with ⟨rfl, h0⟩ | ⟨b', blk, t, fr, h1, h2, h3, h4, h5, h6⟩
  · rw [hb] at h0; cases h0
  · rw [hb] at h1
    cases h1
    obtain ⟨w', cur', q1, q2, q3, q4⟩ := run_storeCells_any (P := P) (g := b.1) (o := b.2 + p) (t := t) (fr := fr) ns 0 blk w h2 (by simp; omega) hlf (by rw [h3]; exact (h6 rfl).not)
    have hlen : cur'.size = blk.size := by
      have := congrArg List.length q4
      simp only [List.length_append, List.length_take, List.length_drop, Array.length_toList] at this
      omega
    refine ⟨w', q1, q2, .inr ⟨b, cur', t, fr, hb, q3, by rw [hlen]; exact h3, by rw [splice_length hle]; exact h4, fun j hj => ?_, h6⟩⟩
    rw [splice_length hle] at hj
    have e1 : cur'.toList = splice blk.toList (b.2 + p) ns := by rw [q4]; simp [splice]
    have e2 : cur'[b.2 + j]? = (splice blk.toList (b.2 + p) ns)[b.2 + j]? := by rw [← e1]; simp
    have e3 : b.2 + p + ns.length ≤ blk.toList.length := by simp; omega
    rw [e2, splice_get e3, splice_get hle]
    have e4 := h5 j hj
    by_cases c1 : j < p
    · rw [if_pos c1, if_pos (by omega)]; simpa using e4
    · rw [if_neg c1, if_neg (by omega)]
      by_cases c2 : j < p + ns.length
      · rw [if_pos c2, if_pos (by omega)]; congr 1; omega
      · rw [if_neg c2, if_neg (by omega)]; simpa using e4
theorem eff_store (hi : Inv G m h w) (he : ERel G m env a) {t : TypeId} {x y : Operand} (ho : o.op = .store t x y) (hev : evEff P o env h K = some r) : EffOK P G m w a o K r := by
  simp only [evEff, ho] at hev
  have hds : isDs o.op = true := by rw [ho]; rfl
  have run : ∀ {b : Nat × Nat} {p : Nat} {w' : World} {v : TV}, a.eval x = .pointer (some (at_ b p)) → TVRel m v (a.eval y) → wOf v.ents = some (szOf P t) → 0 < szOf P t → (storeCells (at_ b p) (a.eval y).cells.toList).run P w = .ok () w' →
      (execOp a.eval o).run P w = .ok .skip w' := by
    intro b p w' v hx hy hw hpos hst
    obtain ⟨i, hin, hiz⟩ := szOf_info rfl hpos
    have hsz : (a.eval y).cells.size = i.size := by
      have := wOf_cells hw hy.ents
      rw [hiz]
      simpa using this
    simp only [execOp, ho, hx, Instr.storeAt, Instr.sureAddr, storeVar, Sem.run_bind, Sem.run_pure, Result.andThen_ok, run_size hin, hsz]
    simp [hst]
  split at hev
  · rename_i id off v hx hy
    have hy' : TVRel m v (a.eval y) := opd_rel he hy
    obtain ⟨g, b, hg, hb, hv⟩ : ∃ g b, m[id]? = some g ∧ g.addr = some b ∧ a.eval x = .pointer (some (at_ b off)) := opd_rel he hx
    split at hev
    · rename_i es hid
      split at hev
      · rename_i hw
        obtain ⟨hw, hpos'⟩ := hw
        split at hev
        · rename_i es' hput
          split at hev
          · rename_i hsh
            obtain ⟨hs1, hpos⟩ := hsh
            obtain ⟨hsg, cs, hoc, hpl⟩ := hi.obs id _ g hid hg
            obtain ⟨q1, q2⟩ := putW_cells hput hoc hy'.ents
            obtain ⟨w', r1, r2, r3⟩ := store_cells (P := P) hi hid hg hb hoc hpl q1 hy'.leaves
            refine ⟨_, _, hev, .skip, undef, w', m, run hv hy' hw hpos' r1, .inr ⟨rfl, rfl⟩, hi.put hid hg hb r2 ⟨seqG_shape hs1 hpos hoc q2 hsg, _, q2, r3⟩, Pre.refl m, .inl trivial, fun h0 => by rw [hds] at h0; cases h0⟩
          · cases hev
        · cases hev
      · cases hev
    · cases hev
  · rename_i id off i o2 v hx hy
    have hy' : TVRel m v (a.eval y) := opd_rel he hy
    obtain ⟨g, b, hg, hb, hv⟩ : ∃ g b, m[id]? = some g ∧ g.addr = some b ∧ a.eval x = .pointer (some (at_ b (off + i * g.ew off + o2))) := opd_rel he hx
    split at hev
    · rename_i es hid
      split at hev
      · rename_i hw
        obtain ⟨hw, hpos'⟩ := hw
        split at hev
        · rename_i pre k n l post htk hdr
          split at hev
          · rename_i es' hput
            split at hev
            · rename_i yv hof
              obtain ⟨hlt, hev⟩ := dec_of hev
              obtain ⟨hsg, cs, hoc, hpl⟩ := hi.obs id _ g hid hg
              obtain ⟨_, hew⟩ := hsg off k n l post hdr
              obtain ⟨t1, t2⟩ := takeW_cells htk hoc
              obtain ⟨_, c1, c2, hcs, ⟨hl, rfl⟩, hpost⟩ := dropW_cells hdr hoc
              obtain ⟨q1, q2⟩ := putW_cells hput (toLV_cells m k (l.getD i k.zero)) hy'.ents
              have hcv := of1_cells k hof q2
              rw [cv_length] at q1
              have hcl : cs.length = off + (l.length * k.w + c2.length) := by
                have := congrArg List.length hcs
                simp only [List.length_drop, List.length_append, cvs_length] at this
                omega
              have hil : (i + 1) * k.w ≤ l.length * k.w := Nat.mul_le_mul_right _ hlt
              rw [Nat.add_mul, Nat.one_mul] at hil
              have hle : off + i * g.ew off + o2 + (a.eval y).cells.toList.length ≤ cs.length := by rw [← hew]; omega
              obtain ⟨w', r1, r2, r3⟩ := store_cells (P := P) hi hid hg hb hoc hpl hle hy'.leaves
              have hcells : cs.take off ++ (cvs k (l.set i yv) ++ c2) = splice cs (off + i * g.ew off + o2) (a.eval y).cells.toList := by
                rw [cvs_set k l i yv hlt, ← hcv, ← hew]
                have := splice_nested (A := cs.take off) (L := cvs k l) (C := c2) (X := k.cv (l.getD i k.zero)) (ns := (a.eval y).cells.toList) (i := i * k.w) (o2 := o2)
                  (by rw [cv_length, cvs_length]; exact hil) (by rw [cv_length]; exact q1) (fun j hj => by rw [cv_length] at hj; rw [cvs_getD k l i hlt j hj])
                rw [← hcs, List.take_append_drop] at this
                have e1 : (cs.take off).length = off := by rw [List.length_take]; omega
                rw [e1, ← Nat.add_assoc] at this
                exact this
              have hes : es = pre ++ .seq k n l :: post := take_drop htk hdr
              refine ⟨_, _, hev, .skip, undef, w', m, run hv hy' hw hpos' r1, .inr ⟨rfl, rfl⟩, hi.put hid hg hb r2 ⟨seqG_xsh (es := es) (by rw [hes]; simp [xsh]) hsg, _, ?_, r3⟩, Pre.refl m, .inl trivial, fun h0 => by rw [hds] at h0; cases h0⟩
              rw [← hcells]
              exact ocells_append.2 ⟨_, _, rfl, t2, _, _, rfl, ⟨by rw [List.length_set]; exact hl, rfl⟩, hpost⟩
            · cases hev
          · cases hev
        · cases hev
      · cases hev
    · cases hev
  · cases hev
end
end
section
variable [FZ]
variable {P : Program}
section
variable {G : Ctx} {m : GM} {h : Heap} {w w' : World} {a : Act} {env : Env} {o : Oper} {K : AV → Heap → Option Res} {r : Res}
theorem elemOf_rel {e : TypeId} {k : EK} {z : k.den} (he : elemOf P e = some ⟨k, z⟩) : ∃ i v, P.info? e = some i ∧ i.size = k.w ∧ i.zero = some v ∧ v.cells.toList = k.cv z ∧ 0 < i.bytes := by
  unfold elemOf at he
  split at he
  · rename_i k' hk
    split at he
    · rename_i hsz
      split at he
      · rename_i es hz
        split at he
        · rename_i z' hz'
          simp only [Option.some.injEq, Sigma.mk.injEq] at he
          obtain ⟨rfl, he⟩ := he
          have he := eq_of_heq he
          subst he
          obtain ⟨i, v, hi, hv, hoc⟩ := zeroE_cells (m := []) hz
          refine ⟨i, v, hi, ?_, hv, of1_cells _ hz' hoc, ?_⟩
          · simpa [szOf, hi] using hsz.1
          · simpa [bytesOf, hi] using hsz.2
        · cases he
      · cases he
    · cases he
  · cases he
theorem made_cells {k : EK} {z : k.den} {v : Value} (hv : v.cells.toList = k.cv z) (n : Nat) :
    ((Array.range (n * k.w)).map (v.cells[· % v.cells.size]!)).toList = cvs k (List.replicate n z) := by
  have hs : v.cells.size = k.w := by
    have := congrArg List.length hv
    rw [cv_length] at this
    simpa using this
  apply List.ext_getElem?
  intro j
  by_cases hj : j < n * k.w
  · have hd : j / k.w < n := Nat.div_lt_of_lt_mul (by rw [Nat.mul_comm]; exact hj)
    have hm : j % k.w < k.w := Nat.mod_lt _ k.w_pos
    have h1 := cvs_getD k (List.replicate n z) (j / k.w) (by simpa using hd) (j % k.w) hm
    have h2 : j / k.w * k.w + j % k.w = j := by rw [Nat.mul_comm]; exact Nat.div_add_mod j k.w
    rw [h2] at h1
    rw [h1]
    have h3 : (List.replicate n z).getD (j / k.w) k.zero = z := by simp [List.getD_eq_getElem?_getD, hd]
    rw [h3, ← hv]
    have hlt : j % v.cells.size < v.cells.size := by rw [hs]; exact hm
    simp only [Array.toList_map, Array.toList_range, List.getElem?_map, List.getElem?_range hj, Option.map_some, Array.getElem?_toList]
    rw [hs] at hlt ⊢
    rw [Array.getElem?_eq_getElem (by rw [hs]; exact hlt)]
    rw [getElem!_pos _ _ (by rw [hs]; exact hlt)]
  · have h1 : ((Array.range (n * k.w)).map (v.cells[· % v.cells.size]!)).toList.length ≤ j := by simp; omega
    have h2 : (cvs k (List.replicate n z)).length ≤ j := by rw [cvs_length]; simp; omega
    rw [List.getElem?_eq_none h1, List.getElem?_eq_none h2]
theorem full_rel {g : Gh} (hg : m[h.length]? = some g) {nb sz n : Nat} {k : EK} {l : List k.den} (hgh : g = ghOf (some (nb, 0)) sz [.seq k 0 l]) {c : Nat} (hl : l.length ≤ c) (hsz : c * k.w ≤ sz) :
    LRel m (.full h.length) (.slice (some ⟨nb, 0, none⟩) l.length c) := by
  subst hgh
  refine ⟨_, hg, _, some ⟨nb, 0, none⟩, c, hg, ?_, ?_, ?_, ?_, ?_⟩
  · simp [ghOf, drop0]
  · simpa [ghOf, drop0] using hl
  · intro c' hc; cases hc
  · simp
  · refine .inr ⟨(nb, 0), rfl, ?_, ?_⟩
    · simp [at_]
    · simpa [ghOf, drop0] using hsz
theorem seq_cells (m : GM) (k : EK) (l : List k.den) : OCells m [.seq k 0 l] (cvs k l) := ⟨_, [], (List.append_nil _).symm, ⟨.inl rfl, rfl⟩, rfl⟩
theorem eff_buildSlice (hi : Inv G m h w) (he : ERel G m env a) {t : TypeId} {n : Nat} {parts : Array (Nat × Operand)} (ho : o.op = .buildSlice t n parts) (hev : evEff P o env h K = some r) : EffOK P G m w a o K r := by
  simp only [evEff, ho] at hev
  split at hev
  · rename_i e ht
    split at hev
    · rename_i k z ps hel hps
      split at hev
      · cases hev
      · rename_i hbig
        split at hev
        · rename_i l hput
          obtain ⟨i, v, hin, hiz, hzz, hcv, hbpos⟩ := elemOf_rel hel
          have hpt := partsOf_rel he hps
          have hmade := made_cells hcv n
          have hz0 : ∃ cells0 : Array Value, ((n * i.size = 0 ∧ cells0 = #[]) ∨ (¬ n * i.size = 0 ∧ cells0 = v.cells)) ∧
              ((Array.range (n * i.size)).map (cells0[· % cells0.size]!)).toList = cvs k (List.replicate n z) := by
            by_cases hz : n * i.size = 0
            · refine ⟨#[], .inl ⟨hz, rfl⟩, ?_⟩
              rw [hiz] at hz
              have : n = 0 := by
                rcases Nat.mul_eq_zero.1 hz with h0 | h0
                · exact h0
                · have := k.w_pos; omega
              subst this
              simp [hiz, cvs]
            · refine ⟨v.cells, .inr ⟨hz, rfl⟩, ?_⟩
              rw [hiz]; exact hmade
          obtain ⟨cells0, hr0, hc0⟩ := hz0
          obtain ⟨cs', hf, hcs', hlen⟩ := fill_elems (k := k) (sz := i.size) hiz parts.toList ps (List.replicate n z) l _ hpt hput hc0
          have hlen' : l.length = n := by simpa using hlen
          have hsz : cs'.size = n * k.w := by
            have := congrArg List.length hcs'
            rw [cvs_length, hlen'] at this
            simpa using this
          refine ⟨_, _, hev, _, .slice (some ⟨w.heap.size, 0, none⟩) n n, pushB w (.cells cs' e), _, ?_, .inl rfl,
            hi.new (t := e) (fr := (0, 0)) (blk := cs') (seq_cells m k l) (by rw [← hcs']; simp) (fun j hj => by rw [← hcs']; simp) (.inl rfl), pre_append _ _, .inr ?_, fun _ => ext_push w _⟩
          · have hparts : (parts.map fun (x : Nat × Operand) => (x.1, a.eval x.2)).toList = parts.toList.map fun p => (p.1, a.eval p.2) := by simp
            have hb : ¬ (n * i.size > 2 ^ 24) := by rw [hiz]; exact hbig
            rcases hr0 with ⟨hz, rfl⟩ | ⟨hz, rfl⟩
            · simp only [execOp, ho, Instr.buildSlice, Sem.run_bind, run_under ht, Result.andThen_ok, run_size hin, if_neg hb, if_pos hz, hparts, hf, Sem.run_pure, newRow, run_newObj]
              rfl
            · simp only [execOp, ho, Instr.buildSlice, Sem.run_bind, run_under ht, Result.andThen_ok, run_size hin, if_neg hb, if_neg hz, zero_run hin hzz, hparts, hf, Sem.run_pure, newRow, run_newObj]
              rfl
          · have := full_rel (m := m ++ [ghOf (some (w.heap.size, 0)) cs'.size [.seq k 0 l]]) (h := h) (by rw [← hi.len]; exact gm_app_new) rfl (c := n) (n := 0) (by omega) (by omega)
            rw [hlen'] at this
            exact this
        · cases hev
    · cases hev
  · cases hev
theorem hset_self' : ∀ {h : Heap} {id : Nat} {ob : Ob}, hget h id = some ob → hset h id (some ob) = h
  | [], id, ob, hg => by simp [hget] at hg
  | x :: r, 0, ob, hg => by simp only [hget] at hg; simp [hset, hg]
  | x :: r, n + 1, ob, hg => by simp only [hget] at hg; simp [hset, hset_self' hg]
theorem eff_convert (hi : Inv G m h w) (he : ERel G m env a) {src dst : TypeId} {x : Operand} (ho : o.op = .convert src dst x) (hev : evEff P o env h K = some r) : EffOK P G m w a o K r := by
  simp only [evEff, ho] at hev
  split at hev
  · rename_i e s hs hd hx
    have hv : a.eval x = .string s := opd_rel he hx
    split at hev
    · rename_i z hu hel
      obtain ⟨i, zv, hin, hiz, hzz, hcv, hbpos⟩ := elemOf_rel hel
      have hsz : (toInts s).length = s.size := by simp [toInts]
      have hc : ∀ l : List UInt8, cvs (.int .u8) (l.map fun c => (c.toNat : Int)) = l.map fun c => Value.int .u8 (c.toNat : Int) := by
        intro l
        induction l with
        | nil => rfl
        | cons c l ih => simp only [List.map_cons, cvs, EK.cv, ih]; rfl
      obtain ⟨cap, hcap, hle⟩ : ∃ cap, (choose (.appendCap s.size 0 e)).run P w = .ok cap { w with drawn := w.drawn + 1 } ∧ s.size ≤ cap :=
        ⟨_, rfl, Nat.le_add_right _ _⟩
      let blk : Array Value := (s.data.map fun b => .int .u8 b.toNat) ++ Array.replicate (cap - s.size) (.int .u8 0)
      have hblk : blk.size = cap := by
        have : s.data.size = s.size := rfl
        simp only [blk, Array.size_append, Array.size_map, Array.size_replicate, this]; omega
      let w1 : World := { w with drawn := w.drawn + 1 }
      let w2 : World := pushB w1 (.cells blk e)
      let w3 : World := w2.freeze { block := w.heap.size, off := blk.size } 1
      have hsh : w2.shape? w.heap.size = some (e, blk.size) := by
        have : w2.heap[w.heap.size]? = some (.cells blk e) := push_get w1 _
        simp only [World.shape?, this]
      have hrun : (execOp a.eval o).run P w = .ok (.value (.slice (some ⟨w.heap.size, 0, none⟩) s.size cap)) w3 := by
        have hstb : (Conv.stringToBytes e s).run P w = .ok (.slice (some ⟨w.heap.size, 0, none⟩) s.size cap) w3 := by
          simp only [Conv.stringToBytes, Sem.run_bind, hcap, Result.andThen_ok, newRow, run_newObj, Sem.run_pure, markStringish, run_shape]
          have hsh2 : World.shape? { heap := w.heap.push (.cells blk e), tape := w.tape, drawn := w.drawn + 1, os := w.os, output := w.output } w.heap.size = some (e, blk.size) := hsh
          rw [hsh2]
          rfl
        have hconv : (convert src dst (.string s)).run P w = .ok (.slice (some ⟨w.heap.size, 0, none⟩) s.size cap) w3 := by
          simp only [convert, Sem.run_bind, run_under hs, run_under hd, Result.andThen_ok, run_under hu, hstb]
        simp only [execOp, ho, hv, Sem.run_bind, hconv, Result.andThen_ok, Sem.run_pure]
      have hfz : w3.heap[w.heap.size]? = some (.cells blk e (blk.size, blk.size + 1)) := by
        have : w2.heap[w.heap.size]? = some (.cells blk e) := push_get w1 _
        have hlt : w.heap.size < w2.heap.size := (Array.getElem?_eq_some_iff.1 this).1
        simp only [w3, World.freeze, Nat.one_ne_zero, if_false, Array.getElem?_modify]
        rw [if_pos trivial, this]
        rfl
      have hext : Ext w w3 := ⟨⟨rfl, rfl, rfl⟩, by simp [w3, w2, w1, World.freeze, pushB], fun b hb => by
        have : w2.heap[b]? = w.heap[b]? := (ext_push w1 _).block b hb
        rw [← this]
        simp only [w3, World.freeze]
        simp only [Nat.one_ne_zero, if_false, Array.getElem?_modify]
        rw [if_neg (by omega)]⟩
      have hcs : cvs (.int .u8) (toInts s) = s.data.toList.map fun c => Value.int .u8 (c.toNat : Int) := hc _
      refine ⟨_, _, hev, _, .slice (some ⟨w.heap.size, 0, none⟩) s.size cap, w3, _, hrun, .inl rfl,
        hi.new' (nb := w.heap.size) hext (Nat.le_refl _) (es := [.seq (.int .u8) 0 (toInts s)]) (cs := cvs (.int .u8) (toInts s)) (blk := blk) hfz (seq_cells m (.int .u8) (toInts s)) (by rw [cvs_length, hsz, hblk]; simp [EK.w]; exact hle)
          (fun j hj => ?_) (.inr (Nat.le_refl _)), pre_append _ _, .inr ?_, fun _ => hext⟩
      · rw [hcs]
        rw [cvs_length, hsz] at hj
        simp only [EK.w, Nat.mul_one] at hj
        have hj' : j < s.data.size := hj
        simp only [blk]
        rw [Array.getElem?_append_left (by simpa using hj')]
        simp
      · have := full_rel (m := m ++ [ghOf (some (w.heap.size, 0)) blk.size [.seq (.int .u8) 0 (toInts s)]]) (h := h) (by rw [← hi.len]; exact gm_app_new) rfl (c := cap) (n := 0) (by rw [hsz]; exact hle) (by simp [EK.w, hblk])
        rw [hsz] at this
        exact this
    · cases hev
  · rename_i e0 e id hs hd hx
    have hv : LRel m (.full id) (a.eval x) := opd_rel he hx
    split at hev
    · rename_i k q l hu hob
      split at hev
      · rename_i hsd
        subst hsd
        obtain rfl : e0 = e := by rw [hs] at hd; cases hd; rfl
        obtain ⟨hl0, hev⟩ := dec_of hev
        obtain ⟨g, hg, g', A, C, hg', hval, hle, -, hlen, hA⟩ := hv
        rw [hg] at hg'; cases hg'
        have hln := ((hi.obs _ _ g hob hg).1 0 k q l [] (drop0 _)).1
        rcases hA with hA | ⟨b, hb, rfl, hbd⟩
        · rw [← hln] at hle; omega
        obtain ⟨hsq, cs, hoc, hpl⟩ := hi.obs _ _ g hob hg
        rcases hpl with ⟨_, hn⟩ | ⟨b', blk, t, fr, hb', hblk, hsz, hle2, hcell, hfr⟩
        · rw [hb] at hn; cases hn
        rw [hb] at hb'; cases hb'
        have hfr := hfr rfl
        obtain ⟨fr', hfr', hw⟩ : ∃ fr', FrOk fr' g.sz ∧ (w.freeze { block := b.1, off := blk.size } 1).heap[b.1]? = some (.cells blk t fr') := by
          obtain ⟨f1, f2⟩ := fr
          refine ⟨if f1 == f2 then (blk.size, blk.size + 1) else (min f1 blk.size, max f2 (blk.size + 1)), ?_, ?_⟩
          · unfold FrOk at hfr ⊢
            simp only at hfr
            by_cases hf : f1 = f2
            · simp [hf]; omega
            · have : (f1 == f2) = false := by simpa using hf
              rw [this]
              simp only [Bool.false_eq_true, if_false]
              omega
          · simp only [World.freeze, Nat.one_ne_zero, if_false, Array.getElem?_modify]
            rw [if_pos trivial, hblk]
            rfl
        have hob2 : OnlyB w (w.freeze { block := b.1, off := blk.size } 1) b.1 := ⟨⟨rfl, rfl, rfl⟩, by simp [World.freeze], fun c hc => by
          simp only [World.freeze, Nat.one_ne_zero, if_false, Array.getElem?_modify]
          rw [if_neg (fun h => hc h.symm)]⟩
        have hsh : w.shape? b.1 = some (t, blk.size) := by
          simp only [World.shape?, hblk]
        have hrun : (execOp a.eval o).run P w = .ok (.value (a.eval x)) (w.freeze { block := b.1, off := blk.size } 1) := by
          have hconv : (convert src src (a.eval x)).run P w = .ok (a.eval x) (w.freeze { block := b.1, off := blk.size } 1) := by
            rw [hval]
            simp only [convert, Sem.run_bind, run_under hs, Result.andThen_ok, run_under hu, beq_self_eq_true, markStringish, run_shape, at_, hsh]
            rfl
          simp only [execOp, ho, Sem.run_bind, hconv, Result.andThen_ok, Sem.run_pure]
        have hi' := hi.put (es' := [.seq k q l]) hob hg hb hob2 ⟨hsq, cs, hoc, .inr ⟨b, blk, t, fr', hb, hw, hsz, hle2, hcell, fun _ => hfr'⟩⟩
        rw [hset_self' hob] at hi'
        refine ⟨_, _, hev, _, a.eval x, _, m, hrun, .inl rfl, hi', Pre.refl m, .inr ?_, fun hds => ?_⟩
        · exact opd_rel he hx
        · rw [ho] at hds; simp [isDs] at hds
      · cases hev
    · cases hev
  · cases hev
theorem wrap_id {n : Int} (h0 : 0 ≤ n) (h1 : n ≤ 70368744177664) : IntKind.i64.wrap n = n := by
  exact IntWalk.i64_in _ (by omega)
theorem sameOpd_val {l c : Operand} {kl kc : IntKind} {n mm : Int} (hsame : sameOpd l c = true) (hl : a.eval l = .int kl n) (hc : a.eval c = .int kc mm) : n = mm := by
  unfold sameOpd at hsame
  split at hsame
  · rename_i p q
    have : p = q := by simpa using hsame
    subst this
    rw [hl] at hc
    injection hc
  · rename_i k1 p k2 q
    have : p = q := by simpa using hsame
    subst this
    have e1 : Value.int k1 p = .int kl n := hl
    have e2 : Value.int k2 p = .int kc mm := hc
    injection e1 with _ e1
    injection e2 with _ e2
    rw [← e1, ← e2]
  · cases hsame
theorem eff_makeSlice (hi : Inv G m h w) (he : ERel G m env a) {t : TypeId} {l c : Operand} (ho : o.op = .makeSlice t l c) (hev : evEff P o env h K = some r) : EffOK P G m w a o K r := by
  simp only [evEff, ho] at hev
  split at hev
  · rename_i e n mm ht hl hc
    obtain ⟨kl, hl'⟩ := int_opd he hl
    obtain ⟨kc, hc'⟩ := int_opd he hc
    split at hev
    · rename_i k z hel
      obtain ⟨⟨h0, h1, h2, h3⟩, hev⟩ := dec_of hev
      obtain ⟨i, v, hin, hiz, hzz, hcv, hbpos⟩ := elemOf_rel hel
      have hb : bytesOf P e = i.bytes := by simp [bytesOf, hin]
      have hmade := made_cells hcv mm.toNat
      have hwn := wrap_id h0 (by omega)
      have hwm := wrap_id (n := mm) (by omega) h2
      have hbytes : ¬ ((i.bytes : Int) * mm > 2 ^ 48) := by
        rw [hb, Int.mul_comm] at h3; omega
      have hz0 : ∃ cells0 : Array Value, ((mm.toNat * i.size = 0 ∧ cells0 = #[]) ∨ (¬ mm.toNat * i.size = 0 ∧ cells0 = v.cells)) ∧
          ((Array.range (mm.toNat * i.size)).map (cells0[· % cells0.size]!)).toList = cvs k (List.replicate mm.toNat z) := by
        by_cases hz : mm.toNat * i.size = 0
        · refine ⟨#[], .inl ⟨hz, rfl⟩, ?_⟩
          rw [hiz] at hz
          have : mm.toNat = 0 := by
            rcases Nat.mul_eq_zero.1 hz with h0 | h0
            · exact h0
            · have := k.w_pos; omega
          rw [this]
          simp [hiz, cvs]
        · refine ⟨v.cells, .inr ⟨hz, rfl⟩, ?_⟩
          rw [hiz]; exact hmade
      obtain ⟨cells0, hr0, hc0⟩ := hz0
      generalize hblk : (Array.range (mm.toNat * i.size)).map (cells0[· % cells0.size]!) = blk at hc0
      have hsz : blk.size = mm.toNat * k.w := by
        have := congrArg List.length hc0
        rw [cvs_length] at this
        simpa using this
      have hrun : (execOp a.eval o).run P w = .ok (.value (.slice (some ⟨w.heap.size, 0, none⟩) n.toNat mm.toNat)) (pushB w (.cells blk e)) := by
        have ht1 : (decide (mm < 0) || decide ((i.bytes : Int) * mm > 2 ^ 48) || decide (n < 0) || decide (n > mm)) = false := by
          simp only [Bool.or_eq_false_iff, decide_eq_false_iff_not]
          exact ⟨⟨⟨by omega, hbytes⟩, by omega⟩, by omega⟩
        have hti : (typeInfo e).run P w = .ok i w := by simp [typeInfo, hin]
        rcases hr0 with ⟨hz, rfl⟩ | ⟨hz, rfl⟩
        · simp only [execOp, ho, Instr.makeSlice, Sem.run_bind, run_under ht, Result.andThen_ok, hl', hc', asInt, asIntOf, Sem.run_pure, hti, hwn, hwm, ht1, Bool.false_eq_true, if_false, run_askRoom, run_size hin, if_pos hz, newRow, run_newObj, hblk]
          rfl
        · simp only [execOp, ho, Instr.makeSlice, Sem.run_bind, run_under ht, Result.andThen_ok, hl', hc', asInt, asIntOf, Sem.run_pure, hti, hwn, hwm, ht1, Bool.false_eq_true, if_false, run_askRoom, run_size hin, if_neg hz, zero_run hin hzz, newRow, run_newObj, hblk]
          rfl
      have hg : (m ++ [ghOf (some (w.heap.size, 0)) blk.size [.seq k 0 (List.replicate mm.toNat z)]])[h.length]? = some (ghOf (some (w.heap.size, 0)) blk.size [.seq k 0 (List.replicate mm.toNat z)]) := by
        rw [← hi.len]; exact gm_app_new
      refine ⟨_, _, hev, _, _, _, _, hrun, .inl rfl,
        hi.new (t := e) (fr := (0, 0)) (blk := blk) (seq_cells m k (List.replicate mm.toNat z)) (by rw [← hc0]; simp) (fun j hj => by rw [← hc0]; simp) (.inl rfl), pre_append _ _, .inr ?_, fun _ => ext_push w _⟩
      by_cases hsame : sameOpd l c = true
      · rw [if_pos hsame]
        have hnm : n = mm := sameOpd_val hsame hl' hc'
        subst hnm
        have := full_rel (h := h) hg rfl (c := n.toNat) (n := 0) (by simp) (by rw [hsz]; simp)
        rw [List.length_replicate] at this
        exact this
      · rw [if_neg hsame]
        refine ⟨_, some ⟨w.heap.size, 0, none⟩, mm.toNat, hg, rfl, by omega, fun c' hc' => by cases hc'; rfl, ?_, .inr ⟨(w.heap.size, 0), rfl, ?_, ?_⟩⟩
        · simp [ghOf, drop0]
        · simp [at_]
        · simp [ghOf, drop0, hsz]
    · cases hev
  · cases hev
theorem append_core (hi : Inv G m h w) {c : Call} {e : TypeId} {k : EK} {i : TypeInfo} {z : Value} {x y : Operand} {l1 l2 : List k.den} {b : LV} (ho : o.op = .call c) (hc : c.callee = .builtin .append) (hl : c.args.toList = [x, y])
    (ht : arg0T P c = some (.slice e)) (h1 : arg1Ok P c = true) (hin : P.info? e = some i) (hiz : i.size = k.w) (hzz : i.zero = some z) (hzs : z.cells.size = k.w) (hbp : 0 < i.bytes) (hb : LRel m b (a.eval y)) (hvis : visK k h b = some l2)
    {A : Option Addr} {C : Nat} (hx : a.eval x = .slice A l1.length C) (hC : l1.length ≤ C) (hsize : (l1.length + l2.length) * i.bytes ≤ 70368744177664)
    (hrd : ∀ w', Ext w w' → l1.length ≠ 0 → ∃ p, A = some p ∧ ∀ j u, (cvs k l1)[j]? = some u → w'.cell? (p.add j) = some u) :
    (l1.length + l2.length ≤ C ∧ ∀ w', (match A with | some p => (storeCells (p.add (l1.length * k.w)) (cvs k l2)).run P w = .ok () w' | none => w' = w) →
      (execOp a.eval o).run P w = .ok (.value (.slice A (l1.length + l2.length) C)) w') ∨
    (∃ C' blk w', C < l1.length + l2.length ∧ l1.length + l2.length ≤ C' ∧ (execOp a.eval o).run P w = .ok (.value (.slice (some ⟨w.heap.size, 0, none⟩) (l1.length + l2.length) C')) w' ∧
      Ext w w' ∧ w'.heap[w.heap.size]? = some (.cells blk e) ∧ blk.size = C' * k.w ∧ ∀ j, j < (cvs k (l1 ++ l2)).length → blk[j]? = (cvs k (l1 ++ l2))[j]?) := by
  obtain ⟨consts, hrun⟩ := run_builtin (P := P) (a := a) c hc ho
  obtain ⟨t0, ht0, htu⟩ := arg0_of ht
  obtain ⟨t1, d1, ht1, hd1, hd1'⟩ : ∃ t1 d1, c.argTypes[1]? = some t1 ∧ P.underlying t1 = some d1 ∧ ((∃ q, d1 = .slice q) ∨ d1 = .string) := by
    unfold arg1Ok at h1
    split at h1
    · rename_i t1 ht1
      split at h1
      · rename_i q hq; exact ⟨t1, _, ht1, hq, .inl ⟨q, rfl⟩⟩
      · rename_i hq; exact ⟨t1, _, ht1, hq, .inr rfl⟩
      · cases h1
    · cases h1
  obtain ⟨hlen, hfst, _⟩ := visK_run (P := P) hi hb hvis
  have hti : ∀ w : World, (typeInfo e).run P w = .ok i w := fun w => by simp [typeInfo, hin]
  have hlen' := hlen w
  have hneed : l1.length + l2.length ≤ 70368744177664 := Nat.le_trans (Nat.le_mul_of_pos_right _ hbp) hsize
  by_cases hroom : l1.length + l2.length ≤ C
  · refine .inl ⟨hroom, fun w' hst => ?_⟩
    have hfc := hfst w (Ext.refl w) l2.length (Nat.le_refl _)
    rw [List.take_length] at hfc
    rw [hrun, args2 hl, hx]
    have key : (Builtin.append_ c.argTypes o.type #[.slice A l1.length C, a.eval y]).run P w = .ok (.slice A (l1.length + l2.length) C) w' := by
      cases A with
      | none =>
        have hst' : w' = w := hst
        subst hst'
        rcases hd1' with ⟨q, rfl⟩ | rfl <;>
          simp [Builtin.append_, ht0, ht1, run_under htu, run_under hd1, run_size hin, hiz, hlen', hroom, hfc]
      | some p =>
        have hst' : (storeCells (p.add (l1.length * k.w)) (cvs k l2)).run P w = .ok () w' := hst
        rcases hd1' with ⟨q, rfl⟩ | rfl <;>
          simp [Builtin.append_, ht0, ht1, run_under htu, run_under hd1, run_size hin, hiz, hlen', hroom, hfc, hst']
    simp [builtin, key]
  · let need := l1.length + l2.length
    let C' := (Question.appendCap need C e).cut (w.tape w.drawn (.appendCap need C e))
    have hC' : need ≤ C' := Nat.le_add_right _ _
    let w1 : World := { w with drawn := w.drawn + 1 }
    have e1 : Ext w w1 := Ext.drew w
    have hfc := hfst w1 e1 l2.length (Nat.le_refl _)
    rw [List.take_length] at hfc
    have hfo : (Builtin.firstCells k.w l1.length (.slice A l1.length C)).run P w1 = .ok (cvs k l1).toArray w1 := by
      by_cases hz : l1.length = 0
      · have : l1 = [] := List.eq_nil_of_length_eq_zero hz
        subst this
        cases A with
        | none => simp [Builtin.firstCells, cvs]
        | some p =>
          have := run_loadCells_list (P := P) (w := w1) p [] (fun j u hu => by cases hu)
          simpa [Builtin.firstCells, cvs] using this
      · obtain ⟨p, rfl, hp⟩ := hrd w1 e1 hz
        have := run_loadCells_list (P := P) (w := w1) p (cvs k l1) hp
        rw [cvs_length] at this
        simpa [Builtin.firstCells] using this
    let blk : Array Value := (cvs k l1).toArray ++ (cvs k l2).toArray ++ Builtin.zeroCells z.cells (C' - need)
    have h63 : ¬ (((l1.length + l2.length : Nat) : Int) > IntKind.i64.max) := by
      have : IntKind.i64.max = 9223372036854775807 := by decide
      rw [this]; omega
    have h48 : ¬ (Builtin.nextslicecap (l1.length + l2.length) C * i.bytes > 2 ^ 48) := by
      have := growslice_fits (need := l1.length + l2.length) (old := C) (bytes := i.bytes) (by omega) (by omega)
      omega
    have key : (Builtin.append_ c.argTypes o.type #[.slice A l1.length C, a.eval y]).run P w = .ok (.slice (some ⟨w.heap.size, 0, none⟩) (l1.length + l2.length) C') (pushB w1 (.cells blk e)) := by
      have hch : (choose (.appendCap (l1.length + l2.length) C e)).run P w = .ok C' w1 := rfl
      have hzz' := fun w => zero_run hin hzz w
      rcases hd1' with ⟨q, rfl⟩ | rfl
      · simp only [Builtin.append_, ht0, ht1, Sem.run_bind, run_under htu, run_under hd1, Result.andThen_ok, run_size hin, hiz, Sem.run_pure, Bool.false_eq_true, if_false, hlen', List.getElem?_toArray, List.getElem?_cons_zero, List.getElem?_cons_succ, if_neg hroom, hti, h63, h48, false_and, hch, run_askRoom, hfo, Bool.not_false, if_true, hfc, hzz', newRow, run_newObj]
        rfl
      · simp only [Builtin.append_, ht0, ht1, Sem.run_bind, run_under htu, run_under hd1, Result.andThen_ok, run_size hin, hiz, Sem.run_pure, Bool.false_eq_true, if_false, hlen', List.getElem?_toArray, List.getElem?_cons_zero, List.getElem?_cons_succ, if_neg hroom, hti, h63, h48, false_and, hch, run_askRoom, hfo, Bool.not_false, if_true, hfc, hzz', newRow, run_newObj]
        rfl
    refine .inr ⟨C', blk, pushB w1 (.cells blk e), by omega, hC', ?_, e1.trans (ext_push w1 _), push_get w1 _, ?_, fun j hj => ?_⟩
    · rw [hrun, args2 hl, hx]
      simp [builtin, key]
    · simp only [blk, Array.size_append, List.size_toArray, cvs_length, size_zeroCells, hzs]
      rw [← Nat.add_mul, ← Nat.add_mul]
      congr 1
      show need + (C' - need) = C'
      omega
    · rw [cvs_append] at hj ⊢
      simp only [blk]
      rw [Array.getElem?_append_left (by simpa using hj)]
      simp
theorem full_nil {g : Gh} (hg : m[h.length]? = some g) {k : EK} {A : Option Addr} (hgh : g = ghOf none 0 [.seq k 0 []]) : LRel m (.full h.length) (.slice A 0 0) := by
  subst hgh
  refine ⟨_, hg, _, A, 0, hg, ?_, ?_, ?_, ?_, .inl rfl⟩
  · simp [ghOf, drop0]
  · simp [ghOf, drop0]
  · intro c' hc; cases hc
  · simp
theorem add_nil (hi : Inv G m h w) (k : EK) : Inv G (m ++ [ghOf none 0 [.seq k 0 []]]) (h ++ [some ⟨false, [.seq k 0 []]⟩]) w :=
  hi.add ⟨ghOf_seq _ _ _, [], seq_cells _ k [], .inl ⟨rfl, rfl⟩⟩ (fun b hb => by cases hb) (fun _ b hb => by cases hb)
theorem append_slice (hi : Inv G m h w) {c : Call} {e : TypeId} {k : EK} {i : TypeInfo} {z : Value} {x y : Operand} {l1 l2 : List k.den} {b : LV} (ho : o.op = .call c) (hc : c.callee = .builtin .append) (hl : c.args.toList = [x, y])
    (ht : arg0T P c = some (.slice e)) (h1 : arg1Ok P c = true) (hin : P.info? e = some i) (hiz : i.size = k.w) (hzz : i.zero = some z) (hzs : z.cells.size = k.w) (hbp : 0 < i.bytes) (hb : LRel m b (a.eval y)) (hvis : visK k h b = some l2)
    (hsize : (l1.length + l2.length) * i.bytes ≤ 70368744177664)
    {id lo n : Nat} {cap : Option Nat} {l : List k.den} (hid : hget h id = some ⟨false, [.seq k n l]⟩) (hsl : SlRel m id 0 lo l1.length cap (a.eval x))
    (hrd : ∀ A C, a.eval x = .slice A l1.length C → ∀ w', Ext w w' → l1.length ≠ 0 → ∃ p, A = some p ∧ ∀ j u, (cvs k l1)[j]? = some u → w'.cell? (p.add j) = some u)
    (hev : K (.tv (.lf (.full h.length))) (hset h id none ++ [some ⟨false, [.seq k 0 (l1 ++ l2)]⟩]) = some r) : EffOK P G m w a o K r := by
  obtain ⟨g, A, C, hg, hx, hle, hcap, hln, hbb⟩ := hsl
  have hds : isDs o.op = true := by rw [ho]; simp [isDs, hc]
  have hnods : ∀ {q : Prop}, isDs o.op = false → q := fun h0 => by rw [hds] at h0; cases h0
  have hlen2 : (hset h id none).length = h.length := hset_length _ _ _
  rcases append_core hi ho hc hl ht h1 hin hiz hzz hzs hbp hb hvis hx hle hsize (hrd A C hx) with ⟨hroom, hrun⟩ | ⟨C', blk, w', hlt, hC', hrun, hext, hblk, hbs, hcells⟩
  · by_cases hC0 : C = 0
    · subst hC0
      have e1 : l1 = [] := List.eq_nil_of_length_eq_zero (by omega)
      have e2 : l2 = [] := List.eq_nil_of_length_eq_zero (by omega)
      subst e1 e2
      have hr := hrun w (by
        cases A with
        | none => rfl
        | some p => simp [cvs, storeCells])
      have hadd := add_nil (hi.drop id) k
      refine ⟨_, _, hev, _, _, w, _, hr, .inl rfl, hadd, pre_append _ _, .inr ?_, hnods⟩
      have := full_nil (m := m ++ [ghOf none 0 [.seq k 0 []]]) (h := h) (k := k) (A := A) (by rw [← hi.len]; exact gm_app_new) rfl
      exact this
    · rcases hbb with hbb | ⟨bb, hbb, hA, hsz⟩
      · exact absurd hbb hC0
      · obtain ⟨hsg, cs, hoc, hpl⟩ := hi.obs id _ g hid hg
        obtain ⟨hlen, hew⟩ := hsg 0 k n l [] (drop0 _)
        rcases hpl with ⟨_, h0⟩ | ⟨b', blk, t', fr, q1, q2, q3, q4, q5, q6⟩
        · rw [hbb] at h0; cases h0
        · rw [hbb] at q1
          cases q1
          have hleaf := cvs_leaf k l2
          have hfit : (lo + (l1.length + l2.length)) * k.w ≤ (lo + C) * k.w := Nat.mul_le_mul_right _ (by omega)
          rw [← hew] at hsz hA
          simp only [Nat.zero_add, Nat.add_zero] at hsz hA
          have hfit2 : bb.2 + (lo * k.w + l1.length * k.w) + (cvs k l2).length ≤ blk.size := by
            rw [cvs_length, q3]
            simp only [Nat.add_mul] at hfit hsz
            omega
          obtain ⟨w', cur', s1, s2, s3, s4⟩ := run_storeCells_any (P := P) (g := bb.1) (o := bb.2 + (lo * k.w + l1.length * k.w)) (t := t') (fr := fr) (cvs k l2) 0 blk w q2 (by omega) hleaf (by rw [q3]; exact (q6 rfl).not)
          have hr := hrun w' (by
            subst hA
            simp only [add_at]
            exact s1)
          have hcs : cur'.size = blk.size := by
            have := congrArg List.length s4
            simp only [List.length_append, List.length_take, List.length_drop, Array.length_toList] at this
            omega
          let g' := ghOf (some (bb.1, bb.2 + lo * k.w)) g.sz [.seq k 0 (l1 ++ l2)]
          have hkill := hi.kill hid hg hbb s2
          have hadd : Inv G (m ++ [g']) (hset h id none ++ [some ⟨false, [.seq k 0 (l1 ++ l2)]⟩]) w' := by
            refine hkill.add ⟨ghOf_seq _ _ _, _, seq_cells _ k (l1 ++ l2), .inr ⟨_, cur', t', fr, rfl, s3, by rw [hcs]; exact q3, ?_, fun j hj => ?_, q6⟩⟩ (fun b2 hb2 => ?_) (fun _ b2 hb2 j oj gj c2 hj hro hgj hc2 => ?_)
            · rw [cvs_length, List.length_append]
              simp only [g', ghOf]
              simp only [Nat.add_mul] at hfit hsz ⊢
              omega
            · have e1 : cur'.toList = splice blk.toList (bb.2 + (lo * k.w + l1.length * k.w)) (cvs k l2) := by rw [s4]; simp [splice]
              have e2 : cur'[bb.2 + lo * k.w + j]? = (splice blk.toList (bb.2 + (lo * k.w + l1.length * k.w)) (cvs k l2))[bb.2 + lo * k.w + j]? := by rw [← e1]; simp
              rw [e2, splice_get (by simpa using hfit2), cvs_append]
              have hl1 : (cvs k l1).length = l1.length * k.w := cvs_length k l1
              by_cases c1 : j < l1.length * k.w
              · rw [if_pos (by omega), List.getElem?_append_left (by omega)]
                have hne : l1.length ≠ 0 := fun h0 => by rw [h0] at c1; simp at c1
                obtain ⟨p, hp, hcell⟩ := hrd A C hx w (Ext.refl w) hne
                rw [hA] at hp
                cases hp
                have := hcell j _ (List.getElem?_eq_getElem (by omega : j < (cvs k l1).length))
                rw [add_at] at this
                simp only [World.cell?, at_, q2] at this
                rw [List.getElem?_eq_getElem (by omega : j < (cvs k l1).length), ← this]
                simp [Nat.add_assoc]
              · rw [if_neg (by omega), List.getElem?_append_right (by omega), hl1]
                rw [cvs_append, List.length_append, hl1] at hj
                rw [if_pos (by omega)]
                congr 1; omega
            · cases hb2
              have := hi.own id _ g bb hid hg hbb
              exact this
            · cases hb2
              rcases hget_hset hj with ⟨_, h0⟩ | ⟨hne, hj⟩
              · cases h0
              · have := hi.apart hid hg hbb hne hj hgj hc2
                exact this
          refine ⟨_, _, hev, _, _, w', _, hr, .inl rfl, hadd, pre_append _ _, .inr ?_, hnods⟩
          have hgg : (m ++ [g'])[h.length]? = some g' := by rw [← hi.len]; exact gm_app_new
          have hlk : g'.ln 0 = l1.length + l2.length := by simp [g', ghOf, drop0]
          refine ⟨g', hgg, g', A, C, hgg, by rw [hlk], by rw [hlk]; exact hroom, fun c' hc => (by cases hc), by simp, .inr ⟨(bb.1, bb.2 + lo * k.w), rfl, ?_, ?_⟩⟩
          · rw [hA]; simp [at_]
          · simp only [g', ghOf, drop0]
            simp only [Nat.add_mul] at hsz ⊢
            omega
  · have hadd := (hi.drop id).new' hext (Nat.le_refl _) (es := [.seq k 0 (l1 ++ l2)]) hblk (seq_cells m k (l1 ++ l2)) (by rw [cvs_length, List.length_append, hbs]; exact Nat.mul_le_mul_right _ hC') hcells (.inl rfl)
    refine ⟨_, _, hev, _, _, w', _, hrun, .inl rfl, hadd, pre_append _ _, .inr ?_, hnods⟩
    have := full_rel (m := m ++ [ghOf (some (w.heap.size, 0)) blk.size [.seq k 0 (l1 ++ l2)]]) (h := h) (by rw [← hi.len]; exact gm_app_new) rfl (c := C') (n := 0) (by rw [List.length_append]; exact hC') (by rw [hbs]; exact Nat.le_refl _)
    rw [List.length_append] at this
    exact this
theorem eff_append (hi : Inv G m h w) (he : ERel G m env a) {c : Call} (ho : o.op = .call c) (hc : c.callee = .builtin .append) (hev : evEff P o env h K = some r) : EffOK P G m w a o K r := by
  simp only [evEff, ho, hc] at hev
  have hds : isDs o.op = true := by rw [ho]; simp [isDs, hc]
  have hnods : ∀ {q : Prop}, isDs o.op = false → q := fun h0 => by rw [hds] at h0; cases h0
  split at hev
  · rename_i va vb e hargs ht
    obtain ⟨x, y, hl, hx, hy⟩ := (argVals_rel he hargs).two
    split at hev
    · rename_i k z hel
      obtain ⟨i, zv, hin, hiz, hzz, hcv, hbpos⟩ := elemOf_rel hel
      have hzs : zv.cells.size = k.w := by
        have := congrArg List.length hcv
        rw [cv_length] at this
        simpa using this
      have hbe : bytesOf P e = i.bytes := by simp [bytesOf, hin]
      split at hev
      · cases hev
      · rename_i hok
        have hok' : arg1Ok P c = true := by
          cases hq : arg1Ok P c with
          | true => rfl
          | false => exact absurd (by rw [hq]; rfl) hok
        split at hev
        · rename_i l2 hvis
          split at hev
          · rename_i q
            obtain ⟨hsize, hev⟩ := dec_of hev
            rw [hbe] at hsize
            have hx' : a.eval x = .slice none ([] : List k.den).length 0 := hx
            rcases append_core (l1 := []) hi ho hc hl ht hok' hin hiz hzz hzs hbpos hy hvis hx' (Nat.le_refl _) (by simpa using hsize) (fun _ _ h0 => absurd rfl h0) with ⟨hroom, hrun⟩ | ⟨C', blk, w', hlt, hC', hrun, hext, hblk, hbs, hcells⟩
            · have e2 : l2 = [] := List.eq_nil_of_length_eq_zero (by simpa using hroom)
              subst e2
              have hr := hrun w rfl
              refine ⟨_, _, hev, _, _, w, _, hr, .inl rfl, add_nil hi k, pre_append _ _, .inr ?_, hnods⟩
              exact full_nil (m := m ++ [ghOf none 0 [.seq k 0 []]]) (h := h) (k := k) (A := none) (by rw [← hi.len]; exact gm_app_new) rfl
            · rw [List.nil_append] at hcells
              have hadd := hi.new' hext (Nat.le_refl _) (es := [.seq k 0 l2]) hblk (seq_cells m k l2) (by
                rw [cvs_length, hbs]
                simp only [List.length_nil, Nat.zero_add] at hC'
                exact Nat.mul_le_mul_right _ hC') hcells (.inl rfl)
              refine ⟨_, _, hev, _, _, w', _, hrun, .inl rfl, hadd, pre_append _ _, .inr ?_, hnods⟩
              have := full_rel (m := m ++ [ghOf (some (w.heap.size, 0)) blk.size [.seq k 0 l2]]) (h := h) (by rw [← hi.len]; exact gm_app_new) rfl (c := C') (n := 0) (by simpa using hC') (by rw [hbs]; exact Nat.le_refl _)
              simp only [List.length_nil, Nat.zero_add]
              exact this
          · rename_i id
            split at hev
            · rename_i k' n l hid
              split at hev
              · rename_i hk
                subst hk
                simp only [cast_refl] at hev
                obtain ⟨hsize, hev⟩ := dec_of hev
                rw [hbe] at hsize
                have hv1 : visK k' h (.full id) = some l := by simp [visK, vis, hid, cast_refl]
                have hxl : LRel m (.full id) (a.eval x) := hx
                have hrd := (visK_run (P := P) hi hxl hv1).2.2
                have hsf : sliceForm h (.full id) = some (id, 0, 0, l.length, none) := by simp [sliceForm, hid]
                exact append_slice hi ho hc hl ht hok' hin hiz hzz hzs hbpos hy hvis hsize hid (sliceForm_rel hi hsf hx) (fun A C hA => (hrd A _ C hA).2) hev
              · cases hev
            · cases hev
          · rename_i id lo len cap
            split at hev
            · rename_i k' n l hid
              split at hev
              · rename_i hk
                subst hk
                simp only [cast_refl] at hev
                obtain ⟨hsize, hev⟩ := dec_of hev
                rw [hbe] at hsize
                have hv1 : visK k' h (.slice id 0 lo len cap) = some ((l.drop lo).take len) := by simp [visK, vis, hid, cast_refl, drop0]
                have hxl : LRel m (.slice id 0 lo len cap) (a.eval x) := hx
                obtain ⟨hlenR, _, hrd⟩ := visK_run (P := P) hi hxl hv1
                have hsl : SlRel m id 0 lo len cap (a.eval x) := hx
                have hlen : ((l.drop lo).take len).length = len := by
                  obtain ⟨g, A, C, hg, hxv, hle, hcap, hln, _⟩ := hsl
                  exact ((hrd A _ C hxv).1).symm
                have hsl' : SlRel m id 0 lo ((l.drop lo).take len).length cap (a.eval x) := by rw [hlen]; exact hsl
                exact append_slice hi ho hc hl ht hok' hin hiz hzz hzs hbpos hy hvis (by rw [hlen]; exact hsize) hid hsl' (fun A C hA => (hrd A _ C hA).2) hev
              · cases hev
            · cases hev
          · cases hev
        · cases hev
    · cases hev
  · cases hev
theorem hset_self : ∀ {h : Heap} {id : Nat} {ob : Ob}, hget h id = some ob → hset h id (some ob) = h
  | [], _, _, h0 => by simp [hget] at h0
  | x :: r, 0, _, h0 => by simp only [hget] at h0; simp [hset, h0]
  | x :: r, id + 1, _, h0 => by simp only [hget] at h0; simp [hset, hset_self h0]
theorem eff_copy (hi : Inv G m h w) (he : ERel G m env a) {c : Call} (ho : o.op = .call c) (hc : c.callee = .builtin .copy) (hev : evEff P o env h K = some r) : EffOK P G m w a o K r := by
  simp only [evEff, ho, hc] at hev
  have hds : isDs o.op = true := by rw [ho]; simp [isDs, hc]
  have hnods : ∀ {q : Prop}, isDs o.op = false → q := fun h0 => by rw [hds] at h0; cases h0
  split at hev
  · rename_i vd vb e hargs ht
    obtain ⟨x, y, hl, hx, hy⟩ := (argVals_rel he hargs).two
    split at hev
    · rename_i id off lo len cap hsf
      split at hev
      · rename_i es hid
        split at hev
        · rename_i pre k n l post htk hdr
          split at hev
          · rename_i hsz
            split at hev
            · rename_i l2 hvis
              obtain ⟨g, A, C, hg, hxv, hle, hcap, hln, hbb⟩ := sliceForm_rel hi hsf hx
              obtain ⟨hlenR, hfst, _⟩ := visK_run (P := P) hi hy hvis
              obtain ⟨consts, hrun⟩ := run_builtin (P := P) (a := a) c hc ho
              obtain ⟨t0, ht0, htu⟩ := arg0_of ht
              obtain ⟨i, hin, hiz⟩ := szOf_info hsz k.w_pos
              obtain ⟨hsg, cs, hoc, hpl⟩ := hi.obs id _ g hid hg
              obtain ⟨hlen, hew⟩ := hsg off k n l post hdr
              obtain ⟨t1, t2⟩ := takeW_cells htk hoc
              obtain ⟨_, c1, c2, hcs, ⟨hl1, rfl⟩, hpost⟩ := dropW_cells hdr hoc
              have hmin : Nat.min l2.length len ≤ l2.length := Nat.min_le_left _ _
              have hfc := hfst w (Ext.refl w) (Nat.min l2.length len) hmin
              have htake : l2.take (Nat.min l2.length len) = l2.take len := by
                apply List.ext_getElem?
                intro j
                rw [List.getElem?_take, List.getElem?_take]
                have : Nat.min l2.length len = min l2.length len := rfl
                by_cases h1 : j < len
                · by_cases h2 : j < l2.length
                  · rw [if_pos (by omega), if_pos h1]
                  · rw [if_neg (by omega), if_pos h1, List.getElem?_eq_none (by omega)]
                · rw [if_neg (by omega), if_neg h1]
              rw [htake] at hfc
              have htl : (l2.take len).length = min l2.length len := by rw [List.length_take, Nat.min_comm]
              have hlo : lo + len ≤ l.length := by
                rw [hlen]
                cases cap with
                | none => simpa using hln
                | some cc => have := hcap cc rfl; simp only [Option.getD_some] at hln; omega
              have hes : es = pre ++ .seq k n l :: post := take_drop htk hdr
              have hnl : (l.take lo ++ (l2.take len ++ l.drop (lo + min l2.length len))).length = l.length := by
                simp only [List.length_append, List.length_take, List.length_drop]; omega
              have hmi : min (l2.length : Int) (len : Int) = ((min l2.length len : Nat) : Int) := by omega
              by_cases hz : min l2.length len = 0
              · have hr : (execOp a.eval o).run P w = .ok (.value (.int .i64 ((min l2.length len : Nat) : Int))) w := by
                  have e0 : l2.take len = [] := List.eq_nil_of_length_eq_zero (by rw [htl]; exact hz)
                  rw [e0] at hfc
                  rw [hrun, args2 hl, hxv]
                  cases A with
                  | none => simp [builtin, Builtin.copy_, ht0, run_under htu, run_size hin, hiz, hlenR, hfc, goInt]
                  | some p => simp [builtin, Builtin.copy_, ht0, run_under htu, run_size hin, hiz, hlenR, hfc, goInt, cvs, storeCells]
                have hsame : l.take lo ++ (l2.take len ++ l.drop (lo + min l2.length len)) = l := by
                  have e0 : l2.take len = [] := List.eq_nil_of_length_eq_zero (by rw [htl]; exact hz)
                  rw [e0, hz]
                  simp
                have hput : Inv G m (hset h id (some ⟨false, pre ++ .seq k n (l.take lo ++ (l2.take len ++ l.drop (lo + min l2.length len))) :: post⟩)) w := by
                  rw [hsame, ← hes]
                  have : hset h id (some ⟨false, es⟩) = h := hset_self hid
                  rw [this]; exact hi
                exact ⟨_, _, hev, _, _, w, m, hr, .inl rfl, hput, Pre.refl m, .inr rfl, hnods⟩
              · rcases hbb with hbb | ⟨b, hbb, hA, hsz2⟩
                · omega
                · have hcl : cs.length = off + (l.length * k.w + c2.length) := by
                    have := congrArg List.length hcs
                    simp only [List.length_drop, List.length_append, cvs_length] at this
                    omega
                  have hns : (cvs k (l2.take len)).length = min l2.length len * k.w := by rw [cvs_length, htl]
                  have hfit : (lo + min l2.length len) * k.w ≤ l.length * k.w := Nat.mul_le_mul_right _ (by omega)
                  rw [Nat.add_mul] at hfit
                  have hle2 : off + lo * g.ew off + (cvs k (l2.take len)).length ≤ cs.length := by rw [hns, ← hew]; omega
                  obtain ⟨w', r1, r2, r3⟩ := store_cells (P := P) hi hid hg hbb hoc hpl hle2 (cvs_leaf k _)
                  have hr : (execOp a.eval o).run P w = .ok (.value (.int .i64 ((min l2.length len : Nat) : Int))) w' := by
                    rw [hrun, args2 hl, hxv, hA]
                    simp [builtin, Builtin.copy_, ht0, run_under htu, run_size hin, hiz, hlenR, hfc, goInt, r1]
                  have hcells : cs.take off ++ (cvs k (l.take lo ++ (l2.take len ++ l.drop (lo + min l2.length len))) ++ c2) = splice cs (off + lo * g.ew off) (cvs k (l2.take len)) := by
                    have e1 : cvs k (l.take lo ++ (l2.take len ++ l.drop (lo + min l2.length len))) = splice (cvs k l) (lo * k.w) (cvs k (l2.take len)) := by
                      rw [cvs_append, cvs_append, cvs_take, cvs_drop]
                      simp only [splice]
                      rw [hns, Nat.add_mul]
                    rw [e1, ← hew]
                    have h0 : (cs.take off).length = off := by rw [List.length_take]; omega
                    apply List.ext_getElem?
                    intro j
                    have hcs' : cs = cs.take off ++ (cvs k l ++ c2) := by rw [← hcs, List.take_append_drop]
                    have hs1 : lo * k.w + (cvs k (l2.take len)).length ≤ (cvs k l).length := by rw [hns, cvs_length]; omega
                    rw [splice_get (by rw [← hew] at hle2; exact hle2)]
                    by_cases d1 : j < off
                    · rw [List.getElem?_append_left (by omega), if_pos (by omega), List.getElem?_take, if_pos d1]
                    · have hcj : cs[j]? = (cvs k l ++ c2)[j - off]? := by
                        rw [← hcs, List.getElem?_drop]; congr 1; omega
                      rw [List.getElem?_append_right (by omega), h0, hcj]
                      by_cases d2 : j - off < (cvs k l).length
                      · rw [List.getElem?_append_left (by rw [splice_length hs1]; exact d2), splice_get hs1, List.getElem?_append_left d2]
                        by_cases d3 : j - off < lo * k.w
                        · rw [if_pos d3, if_pos (show j < off + lo * k.w by omega)]
                        · rw [if_neg d3, if_neg (show ¬ j < off + lo * k.w by omega)]
                          by_cases d4 : j - off < lo * k.w + (cvs k (l2.take len)).length
                          · rw [if_pos d4, if_pos (show j < off + lo * k.w + (cvs k (l2.take len)).length by omega)]
                            congr 1; omega
                          · rw [if_neg d4, if_neg (show ¬ j < off + lo * k.w + (cvs k (l2.take len)).length by omega)]
                      · rw [List.getElem?_append_right (by rw [splice_length hs1]; omega), List.getElem?_append_right (by omega), splice_length hs1, if_neg (by omega), if_neg (by omega)]
                  refine ⟨_, _, hev, _, _, w', m, hr, .inl rfl, hi.put hid hg hbb r2 ⟨seqG_xsh (es := es) (by rw [hes]; simp only [List.map_append, List.map_cons, xsh, hnl]) hsg, _, ?_, r3⟩, Pre.refl m, .inr rfl, hnods⟩
                  rw [← hcells]
                  exact ocells_append.2 ⟨_, _, rfl, t2, _, _, rfl, ⟨by rw [hnl]; exact hl1, rfl⟩, hpost⟩
            · cases hev
          · cases hev
        · cases hev
      · cases hev
    · cases hev
  · cases hev
theorem nan_cut (k : FloatKind) (x y t c : Nat) : k.format.order ((Question.nanBits k x y).cut t) c ≠ some .eq ∧ k.format.order c ((Question.nanBits k x y).cut t) ≠ some .eq := by
  obtain ⟨neg, fr, h⟩ : ∃ neg fr, k.format.read ((Question.nanBits k x y).cut t) = .nan neg fr := by
    cases k with
    | f32 =>
      have e1 : (FloatKind.f32.format).signWeight = 2 ^ 31 := by decide
      have e2 : (FloatKind.f32.format).infRung = 0x7f800000 := by decide
      have e3 : (FloatKind.f32.format).binade ≤ 0x7f800000 := by decide
      have hc : (Question.nanBits .f32 x y).cut t = (t % 2) * 2 ^ 31 + 0x7f800000 + 1 + (t / 2) % (2 ^ 23 - 1) := rfl
      have hq : t % 2 < 2 := Nat.mod_lt _ (by omega)
      have hr : (t / 2) % (2 ^ 23 - 1) < 2 ^ 23 - 1 := Nat.mod_lt _ (by decide)
      rw [hc]
      generalize t % 2 = q at hq
      generalize (t / 2) % (2 ^ 23 - 1) = z at hr
      have hm : (q * 2 ^ 31 + 0x7f800000 + 1 + z) % 2 ^ 31 = 0x7f800000 + 1 + z := by omega
      unfold Ieee.Format.read
      simp only [e1, e2, hm]
      rw [if_neg (by omega), if_neg (by omega), if_neg (by omega)]
      exact ⟨_, _, rfl⟩
    | f64 =>
      have e1 : (FloatKind.f64.format).signWeight = 2 ^ 63 := by decide
      have e2 : (FloatKind.f64.format).infRung = 0x7ff0000000000000 := by decide
      have e3 : (FloatKind.f64.format).binade ≤ 0x7ff0000000000000 := by decide
      have hc : (Question.nanBits .f64 x y).cut t = (t % 2) * 2 ^ 63 + 0x7ff0000000000000 + 1 + (t / 2) % (2 ^ 52 - 1) := rfl
      have hq : t % 2 < 2 := Nat.mod_lt _ (by omega)
      have hr : (t / 2) % (2 ^ 52 - 1) < 2 ^ 52 - 1 := Nat.mod_lt _ (by decide)
      rw [hc]
      generalize t % 2 = q at hq
      generalize (t / 2) % (2 ^ 52 - 1) = z at hr
      have hm : (q * 2 ^ 63 + 0x7ff0000000000000 + 1 + z) % 2 ^ 63 = 0x7ff0000000000000 + 1 + z := by omega
      unfold Ieee.Format.read
      simp only [e1, e2, hm]
      rw [if_neg (by omega), if_neg (by omega), if_neg (by omega)]
      exact ⟨_, _, rfl⟩
  unfold Ieee.Format.order
  rw [h]
  constructor
  · simp [Ieee.Datum.order]
  · cases k.format.read c <;> simp [Ieee.Datum.order]
theorem eff_quo (hi : Inv G m h w) (he : ERel G m env a) {xt yt : TypeId} {x y : Operand} (ho : o.op = .binOp .quo xt x y yt) (hev : evEff P o env h K = some r) : EffOK P G m w a o K r := by
  simp only [evEff, ho] at hev
  split at hev
  · rename_i k p k' q hx hy
    have hx' : a.eval x = .float k p := opd_rel he hx
    have hy' : a.eval y = .float k' q := opd_rel he hy
    split at hev
    · rename_i hk
      subst hk
      unfold fquo at hev
      split at hev
      · rename_i z hz
        exact ⟨_, _, hev, _, .float k z, w, m, by simp [execOp, ho, hx', hy', eqGuard, binOp, Op.floatArith, hz], .inl rfl, hi, Pre.refl _, .inr rfl, fun _ => Ext.refl _⟩
      · rename_i hz
        exact ⟨_, _, hev, _, .float k ((Question.nanBits k p q).cut (w.tape w.drawn (.nanBits k p q))), { w with drawn := w.drawn + 1 }, m, by simp [execOp, ho, hx', hy', eqGuard, binOp, Op.floatArith, hz, choose]; rfl, .inl rfl, hi.ext (Ext.drew w), Pre.refl _, .inr ⟨_, rfl, fun c => nan_cut k p q _ c⟩, fun _ => Ext.drew w⟩
    · cases hev
  · cases hev
theorem evEff_sound (hi : Inv G m h w) (he : ERel G m env a) (hev : evEff P o env h K = some r) : EffOK P G m w a o K r := by
  cases ho : o.op with
  | alloc t => exact eff_alloc hi ho hev
  | box t x => exact eff_box hi he ho hev
  | store t x y => exact eff_store hi he ho hev
  | binOp b xt x y yt =>
    cases b with
    | quo => exact eff_quo hi he ho hev
    | _ => simp only [evEff, ho] at hev; cases hev
  | convert src dst x => exact eff_convert hi he ho hev
  | makeSlice t l c => exact eff_makeSlice hi he ho hev
  | buildSlice t n ps => exact eff_buildSlice hi he ho hev
  | call c =>
    cases hc : c.callee with
    | builtin b =>
      cases b with
      | append => exact eff_append hi he ho hc hev
      | copy => exact eff_copy hi he ho hc hev
      | _ => simp only [evEff, ho, hc] at hev; cases hev
    | _ => simp only [evEff, ho, hc] at hev; cases hev
  | _ => simp only [evEff, ho] at hev; cases hev
end
end
section
variable [FZ]
variable {P : Program}
section
variable {G : Ctx} {m : GM} {h : Heap} {w w' : World}
def RenOK (f : Nat → Option Nat) (m m' : GM) : Prop := ∀ (id j : Nat), f id = some j → ∀ g, m[id]? = some g → m'[j]? = some g
theorem CapRel.ren {f : Nat → Option Nat} {m m' : GM} (hf : RenOK f m m') : ∀ {ids l : List Nat} {bs : List Value}, renIds f ids = some l → CapRel m ids bs → CapRel m' l bs
  | [], l, bs, h, hc => by
    simp only [renIds, Option.some.injEq] at h
    subst h
    cases bs with
    | nil => trivial
    | cons x bs => exact hc.elim
  | i :: r, l, [], h, hc => hc.elim
  | i :: r, l, x :: bs, h, hc => by
    simp only [renIds] at h
    split at h
    · rename_i j l' hj hl
      cases h
      obtain ⟨g, b, hg, h1⟩ := hc.1
      exact ⟨⟨g, b, hf i j hj g hg, h1⟩, CapRel.ren hf hl hc.2⟩
    · cases h
theorem LRel.ren {f : Nat → Option Nat} {m m' : GM} (hf : RenOK f m m') {x : LV} {v : Value} (h : LRel m x v) : LRel m' (renL f x) v := by
  have hl := h.leaf
  cases x <;> try exact h
  · rename_i id off
    obtain ⟨g, b, hg, hb, hv⟩ := h
    simp only [renL]
    split
    · rename_i j hj; exact ⟨g, b, hf id j hj g hg, hb, hv⟩
    · exact hl
  · rename_i id off i o2
    obtain ⟨g, b, hg, hb, hv⟩ := h
    simp only [renL]
    split
    · rename_i j hj; exact ⟨g, b, hf id j hj g hg, hb, hv⟩
    · exact hl
  · rename_i id
    obtain ⟨g, hg, g', a, c, hg', hr⟩ := h
    simp only [renL]
    split
    · rename_i j hj; exact ⟨g, hf id j hj g hg, g', a, c, hf id j hj g' hg', hr⟩
    · exact hl
  · rename_i id off lo len cap
    obtain ⟨g', a, c, hg', hr⟩ := h
    simp only [renL]
    split
    · rename_i j hj; exact ⟨g', a, c, hf id j hj g' hg', hr⟩
    · exact hl
  · rename_i g ids
    obtain ⟨bs, hv, hc⟩ := h
    simp only [renL]
    split
    · rename_i l hl'; exact ⟨bs, hv, hc.ren hf hl'⟩
    · exact hl
  · rename_i id
    obtain ⟨g, l, o, hg, hr⟩ := h
    simp only [renL]
    split
    · rename_i j hj; exact ⟨g, l, o, hf id j hj g hg, hr⟩
    · exact hl
theorem xsh_ren (f : Nat → Option Nat) (x : LV) : xsh (renL f x) = xsh x := by
  cases x <;> simp only [renL] <;> try rfl
  all_goals (split <;> rfl)
theorem ECells.ren {f : Nat → Option Nat} {m m' : GM} (hf : RenOK f m m') {x : LV} {cs : List Value} (h : ECells m x cs) : ECells m' (renL f x) cs := by
  cases x
  case seq => exact h
  all_goals
    obtain ⟨v, hv, hl⟩ := h
    have hl' := LRel.ren hf hl
    simp only [renL] at hl' ⊢
    first
      | exact ⟨v, hv, hl'⟩
      | (split at hl' <;> exact ⟨v, hv, hl'⟩)
theorem OCells.ren {f : Nat → Option Nat} {m m' : GM} (hf : RenOK f m m') {es : List LV} : ∀ {cs : List Value}, OCells m es cs → OCells m' (renLs f es) cs := by
  induction es with
  | nil => intro cs h; exact h
  | cons x r ih => rintro cs ⟨a, b, rfl, hx, hr⟩; exact ⟨a, b, rfl, hx.ren hf, ih hr⟩
theorem xsh_rens (f : Nat → Option Nat) (es : List LV) : (renLs f es).map xsh = es.map xsh := by
  induction es with
  | nil => rfl
  | cons x r ih => simp only [renLs, List.map_cons, xsh_ren, ih]
theorem TVRel.ren {f : Nat → Option Nat} {m m' : GM} (hf : RenOK f m m') {x : TV} {v : Value} (h : TVRel m x v) : TVRel m' (renV f x) v := by
  cases x with
  | lf x => exact LRel.ren hf h
  | agg es => obtain ⟨cs, rfl, ho⟩ := h; exact ⟨cs, rfl, ho.ren hf⟩
theorem TVs.ren {f : Nat → Option Nat} {m m' : GM} (hf : RenOK f m m') {l : List TV} : ∀ {vs : List Value}, TVs m l vs → TVs m' (renVs f l) vs := by
  induction l with
  | nil => intro vs h; cases vs <;> exact h
  | cons x r ih =>
    intro vs h
    cases vs with
    | nil => exact h.elim
    | cons v s => exact ⟨h.1.ren hf, ih h.2⟩
theorem nils_full {k : EK} {v : Value} {q : Option EK} (hi : Inv G m h w) (hv : LRel m (.nils q) v) : LRel (m ++ [ghOf none 0 [.seq k 0 []]]) (.full h.length) v := by
  have : v = .slice none 0 0 := hv
  subst this
  exact full_nil (m := m ++ [ghOf none 0 [.seq k 0 []]]) (h := h) (k := k) (A := none) (by rw [← hi.len]; exact gm_app_new) rfl
theorem matL_rel : ∀ (l : List LV) {m : GM} {h : Heap} (_ : Inv G m h w), ∃ t u, (matL l h).2 = h ++ u ∧ Inv G (m ++ t) (matL l h).2 w ∧ (matL l h).1.map xsh = l.map xsh ∧ ∀ cs, OCells m l cs → OCells (m ++ t) (matL l h).1 cs
  | [], m, h, hi => ⟨[], [], by simp [matL], by simpa [matL] using hi, rfl, fun cs h => by simpa [matL] using h⟩
  | .nils (some k) :: r, m, h, hi => by
    obtain ⟨t, u, h1, h2, h3, h4⟩ := matL_rel r (add_nil hi k)
    simp only [matL]
    refine ⟨[ghOf none 0 [.seq k 0 []]] ++ t, [some ⟨false, [.seq k 0 []]⟩] ++ u, by rw [h1]; simp, by rw [← List.append_assoc]; exact h2, by simp only [List.map_cons, h3]; rfl, ?_⟩
    rintro cs ⟨a, b, rfl, ⟨v, rfl, hv⟩, hr⟩
    rw [← List.append_assoc]
    exact ⟨[v], b, rfl, ⟨v, rfl, (nils_full (k := k) hi hv).mono (pre_append _ _)⟩, h4 b (hr.mono (pre_append _ _))⟩
  | .nils none :: r, m, h, hi => by
    obtain ⟨t, u, h1, h2, h3, h4⟩ := matL_rel r hi
    exact ⟨t, u, h1, h2, by simp only [matL, List.map_cons, h3], by rintro cs ⟨a, b, rfl, hx, hr⟩; exact ⟨a, b, rfl, hx.mono (pre_append _ _), h4 b hr⟩⟩
  | .top :: r, m, h, hi => by
    obtain ⟨t, u, h1, h2, h3, h4⟩ := matL_rel r hi
    exact ⟨t, u, h1, h2, by simp only [matL, List.map_cons, h3], by rintro cs ⟨a, b, rfl, hx, hr⟩; exact ⟨a, b, rfl, hx.mono (pre_append _ _), h4 b hr⟩⟩
  | .int _ _ :: r, m, h, hi => by
    obtain ⟨t, u, h1, h2, h3, h4⟩ := matL_rel r hi
    exact ⟨t, u, h1, h2, by simp only [matL, List.map_cons, h3], by rintro cs ⟨a, b, rfl, hx, hr⟩; exact ⟨a, b, rfl, hx.mono (pre_append _ _), h4 b hr⟩⟩
  | .bool _ :: r, m, h, hi => by
    obtain ⟨t, u, h1, h2, h3, h4⟩ := matL_rel r hi
    exact ⟨t, u, h1, h2, by simp only [matL, List.map_cons, h3], by rintro cs ⟨a, b, rfl, hx, hr⟩; exact ⟨a, b, rfl, hx.mono (pre_append _ _), h4 b hr⟩⟩
  | .str _ :: r, m, h, hi => by
    obtain ⟨t, u, h1, h2, h3, h4⟩ := matL_rel r hi
    exact ⟨t, u, h1, h2, by simp only [matL, List.map_cons, h3], by rintro cs ⟨a, b, rfl, hx, hr⟩; exact ⟨a, b, rfl, hx.mono (pre_append _ _), h4 b hr⟩⟩
  | .nilp :: r, m, h, hi => by
    obtain ⟨t, u, h1, h2, h3, h4⟩ := matL_rel r hi
    exact ⟨t, u, h1, h2, by simp only [matL, List.map_cons, h3], by rintro cs ⟨a, b, rfl, hx, hr⟩; exact ⟨a, b, rfl, hx.mono (pre_append _ _), h4 b hr⟩⟩
  | .ptr _ _ :: r, m, h, hi => by
    obtain ⟨t, u, h1, h2, h3, h4⟩ := matL_rel r hi
    exact ⟨t, u, h1, h2, by simp only [matL, List.map_cons, h3], by rintro cs ⟨a, b, rfl, hx, hr⟩; exact ⟨a, b, rfl, hx.mono (pre_append _ _), h4 b hr⟩⟩
  | .pix _ _ _ _ :: r, m, h, hi => by
    obtain ⟨t, u, h1, h2, h3, h4⟩ := matL_rel r hi
    exact ⟨t, u, h1, h2, by simp only [matL, List.map_cons, h3], by rintro cs ⟨a, b, rfl, hx, hr⟩; exact ⟨a, b, rfl, hx.mono (pre_append _ _), h4 b hr⟩⟩
  | .full _ :: r, m, h, hi => by
    obtain ⟨t, u, h1, h2, h3, h4⟩ := matL_rel r hi
    exact ⟨t, u, h1, h2, by simp only [matL, List.map_cons, h3], by rintro cs ⟨a, b, rfl, hx, hr⟩; exact ⟨a, b, rfl, hx.mono (pre_append _ _), h4 b hr⟩⟩
  | .slice _ _ _ _ _ :: r, m, h, hi => by
    obtain ⟨t, u, h1, h2, h3, h4⟩ := matL_rel r hi
    exact ⟨t, u, h1, h2, by simp only [matL, List.map_cons, h3], by rintro cs ⟨a, b, rfl, hx, hr⟩; exact ⟨a, b, rfl, hx.mono (pre_append _ _), h4 b hr⟩⟩
  | .fn _ :: r, m, h, hi => by
    obtain ⟨t, u, h1, h2, h3, h4⟩ := matL_rel r hi
    exact ⟨t, u, h1, h2, by simp only [matL, List.map_cons, h3], by rintro cs ⟨a, b, rfl, hx, hr⟩; exact ⟨a, b, rfl, hx.mono (pre_append _ _), h4 b hr⟩⟩
  | .sl _ _ :: r, m, h, hi => by
    obtain ⟨t, u, h1, h2, h3, h4⟩ := matL_rel r hi
    exact ⟨t, u, h1, h2, by simp only [matL, List.map_cons, h3], by rintro cs ⟨a, b, rfl, hx, hr⟩; exact ⟨a, b, rfl, hx.mono (pre_append _ _), h4 b hr⟩⟩
  | .clo _ _ :: r, m, h, hi => by
    obtain ⟨t, u, h1, h2, h3, h4⟩ := matL_rel r hi
    exact ⟨t, u, h1, h2, by simp only [matL, List.map_cons, h3], by rintro cs ⟨a, b, rfl, hx, hr⟩; exact ⟨a, b, rfl, hx.mono (pre_append _ _), h4 b hr⟩⟩
  | .yld _ :: r, m, h, hi => by
    obtain ⟨t, u, h1, h2, h3, h4⟩ := matL_rel r hi
    exact ⟨t, u, h1, h2, by simp only [matL, List.map_cons, h3], by rintro cs ⟨a, b, rfl, hx, hr⟩; exact ⟨a, b, rfl, hx.mono (pre_append _ _), h4 b hr⟩⟩
  | .nilf :: r, m, h, hi => by
    obtain ⟨t, u, h1, h2, h3, h4⟩ := matL_rel r hi
    exact ⟨t, u, h1, h2, by simp only [matL, List.map_cons, h3], by rintro cs ⟨a, b, rfl, hx, hr⟩; exact ⟨a, b, rfl, hx.mono (pre_append _ _), h4 b hr⟩⟩
  | .nan _ :: r, m, h, hi => by
    obtain ⟨t, u, h1, h2, h3, h4⟩ := matL_rel r hi
    exact ⟨t, u, h1, h2, by simp only [matL, List.map_cons, h3], by rintro cs ⟨a, b, rfl, hx, hr⟩; exact ⟨a, b, rfl, hx.mono (pre_append _ _), h4 b hr⟩⟩
  | .flt _ _ :: r, m, h, hi => by
    obtain ⟨t, u, h1, h2, h3, h4⟩ := matL_rel r hi
    exact ⟨t, u, h1, h2, by simp only [matL, List.map_cons, h3], by rintro cs ⟨a, b, rfl, hx, hr⟩; exact ⟨a, b, rfl, hx.mono (pre_append _ _), h4 b hr⟩⟩
  | .seq _ _ _ :: r, m, h, hi => by
    obtain ⟨t, u, h1, h2, h3, h4⟩ := matL_rel r hi
    exact ⟨t, u, h1, h2, by simp only [matL, List.map_cons, h3], by rintro cs ⟨a, b, rfl, hx, hr⟩; exact ⟨a, b, rfl, hx.mono (pre_append _ _), h4 b hr⟩⟩
theorem matV_rel (v : TV) (hi : Inv G m h w) : ∃ t u, (matV v h).2 = h ++ u ∧ Inv G (m ++ t) (matV v h).2 w ∧ ∀ x, TVRel m v x → TVRel (m ++ t) (matV v h).1 x := by
  unfold matV
  split
  · rename_i k
    exact ⟨[ghOf none 0 [.seq k 0 []]], _, rfl, add_nil hi k, fun x hx => nils_full (k := k) (q := some k) hi hx⟩
  · exact ⟨[], [], by simp, by simpa using hi, fun x hx => by simpa using hx⟩
  · rename_i l
    obtain ⟨t, u, h1, h2, h3, h4⟩ := matL_rel l hi
    exact ⟨t, u, h1, h2, by rintro x ⟨cs, rfl, ho⟩; exact ⟨cs, rfl, h4 _ ho⟩⟩
theorem matVs_rel : ∀ (l : List TV) {m : GM} {h : Heap} (_ : Inv G m h w), ∃ t u, (matVs l h).2 = h ++ u ∧ Inv G (m ++ t) (matVs l h).2 w ∧ ∀ xs, TVs m l xs → TVs (m ++ t) (matVs l h).1 xs
  | [], m, h, hi => ⟨[], [], by simp [matVs], by simpa [matVs] using hi, fun xs hx => by simpa [matVs] using hx⟩
  | v :: r, m, h, hi => by
    obtain ⟨t, u, h1, h2, h3⟩ := matV_rel v hi
    obtain ⟨t', u', h1', h2', h3'⟩ := matVs_rel r h2
    simp only [matVs]
    refine ⟨t ++ t', u ++ u', by rw [h1', h1, List.append_assoc], by rw [← List.append_assoc]; exact h2', fun xs hx => ?_⟩
    cases xs with
    | nil => exact hx.elim
    | cons x xs =>
      rw [← List.append_assoc]
      exact ⟨(h3 x hx.1).mono (pre_append _ _), h3' xs (hx.2.mono (pre_append _ _))⟩
theorem matH_rel : ∀ (n i : Nat) {m : GM} {h : Heap} (_ : Inv G m h w), ∃ t, Inv G (m ++ t) (matH n i h) w ∧ h.length ≤ (matH n i h).length
  | 0, i, m, h, hi => ⟨[], by simpa [matH] using hi, Nat.le_refl _⟩
  | n + 1, i, m, h, hi => by
    simp only [matH]
    split
    · rename_i ro es hob
      generalize hoe : (⟨ro, es⟩ : Ob) = ob at hob
      obtain ⟨rfl, rfl⟩ : ro = ob.ro ∧ es = ob.es := by subst hoe; exact ⟨rfl, rfl⟩
      obtain ⟨t, u, h1, h2, h3, h4⟩ := matL_rel ob.es hi
      have hob' : hget (matL ob.es h).2 i = some ob := by rw [h1, hget_append_left (hget_lt hob)]; exact hob
      have hsw : Inv G (m ++ t) (hset (matL ob.es h).2 i (some ⟨ob.ro, (matL ob.es h).1⟩)) w := by
        refine ⟨by rw [hset_length]; exact h2.len, fun j o gj hj hgj => ?_, fun j o gj c hj hgj hc => ?_, fun i' j oi oj gi gj b c hne q1 q2 q3 q4 q5 q6 q7 q8 => ?_, h2.str, h2.size, h2.frame, h2.fz, fun x hx => ⟨by rw [hset_length]; exact (h2.gh x hx).1, fun ox ho => ?_⟩⟩
        rotate_right
        · rcases hget_hset ho with ⟨he, _⟩ | ⟨_, ho⟩
          · exact (h2.gh x hx).2 ob (by rw [he]; exact hob')
          · exact (h2.gh x hx).2 ox ho
        · rcases hget_hset hj with ⟨rfl, h0⟩ | ⟨hne, hj⟩
          · cases h0
            have hgm : m[j]? = some gj := by
              have := hget_lt hob
              rw [← hi.len] at this
              rwa [List.getElem?_append_left this] at hgj
            obtain ⟨hs, cs, hoc, hp⟩ := hi.obs j ob gj hob hgm
            exact ⟨seqG_xsh h3 hs, cs, h4 cs hoc, hp⟩
          · exact h2.obs j o gj hj hgj
        · rcases hget_hset hj with ⟨rfl, h0⟩ | ⟨hne, hj⟩
          · cases h0; exact h2.own j ob gj c hob' hgj hc
          · exact h2.own j o gj c hj hgj hc
        · rcases hget_hset q1 with ⟨e1, h0⟩ | ⟨n1, p1⟩
          · cases h0
            rcases hget_hset q2 with ⟨e2, _⟩ | ⟨n2, p2⟩
            · exact absurd (e1.trans e2.symm) hne
            · exact h2.dist i' j ob oj gi gj b c hne (by rw [e1]; exact hob') p2 q3 q4 q5 q6 q7 q8
          · rcases hget_hset q2 with ⟨e2, h0⟩ | ⟨n2, p2⟩
            · cases h0
              exact h2.dist i' j oi ob gi gj b c hne p1 (by rw [e2]; exact hob') q3 q4 q5 q6 q7 q8
            · exact h2.dist i' j oi oj gi gj b c hne p1 p2 q3 q4 q5 q6 q7 q8
      obtain ⟨t', h5, h6⟩ := matH_rel n (i + 1) hsw
      refine ⟨t ++ t', by rw [← List.append_assoc]; exact h5, Nat.le_trans ?_ h6⟩
      rw [hset_length, h1]; simp
    · exact matH_rel n (i + 1) hi
theorem memN_iff (a : Nat) (l : List Nat) : memN a l = true ↔ a ∈ l := by
  induction l with
  | nil => simp [memN]
  | cons b r ih => simp only [memN]; split <;> simp_all
theorem nodupB_get : ∀ {l : List Nat}, nodupB l = true → ∀ {i j a : Nat}, l[i]? = some a → l[j]? = some a → i = j
  | [], _, i, j, a, h1, _ => by simp at h1
  | b :: r, hn, i, j, a, h1, h2 => by
    simp only [nodupB, Bool.and_eq_true, Bool.not_eq_true'] at hn
    have hb : ∀ k : Nat, r[k]? = some b → False := fun k hk => by
      have : b ∈ r := List.mem_of_getElem? hk
      rw [← memN_iff] at this
      rw [this] at hn
      exact absurd hn.1 (by simp)
    cases i with
    | zero =>
      cases j with
      | zero => rfl
      | succ j => simp at h1 h2; subst h1; exact (hb j h2).elim
    | succ i =>
      cases j with
      | zero => simp at h1 h2; subst h2; exact (hb i h1).elim
      | succ j => simp at h1 h2; exact congrArg _ (nodupB_get hn.2 h1 h2)
theorem idx_get : ∀ {l : List Nat} {s x j : Nat}, idx l s x = some j → s ≤ j ∧ l[j - s]? = some x
  | [], s, x, j, h => by simp [idx] at h
  | a :: r, s, x, j, h => by
    simp only [idx] at h
    split at h
    · rename_i e
      simp only [Option.some.injEq] at h
      subst h e
      simp
    · obtain ⟨h1, h2⟩ := idx_get h
      refine ⟨by omega, ?_⟩
      rw [show j - s = (j - (s + 1)) + 1 by omega]
      simpa using h2
theorem pickH_get (f : Nat → Option Nat) : ∀ {sel : List Nat} {j : Nat} {ob : Ob}, hget (pickH h f sel) j = some ob → ∃ i o, sel[j]? = some i ∧ hget h i = some o ∧ ob = ⟨o.ro, renLs f o.es⟩
  | [], j, ob, hg => by simp [pickH, hget] at hg
  | i :: r, 0, ob, hg => by
    simp only [pickH, hget] at hg
    cases ho : hget h i with
    | none => rw [ho] at hg; simp [renO] at hg
    | some o => rw [ho] at hg; simp only [renO, Option.some.injEq] at hg; exact ⟨i, o, rfl, ho, hg.symm⟩
  | i :: r, j + 1, ob, hg => by
    simp only [pickH, hget] at hg
    obtain ⟨i', o, h1, h2, h3⟩ := pickH_get f hg
    exact ⟨i', o, by simpa using h1, h2, h3⟩
theorem pickH_length (f : Nat → Option Nat) (sel : List Nat) : (pickH h f sel).length = sel.length := by
  induction sel with
  | nil => rfl
  | cons i r ih => simp [pickH, ih]
def gh0 : Gh := ⟨none, 0, fun _ => 0, fun _ => 0, none⟩
def pickM (m : GM) (sel : List Nat) : GM := sel.map fun i => m.getD i gh0
theorem pickM_get {sel : List Nat} {j i : Nat} {g : Gh} (hs : sel[j]? = some i) (hg : m[i]? = some g) : (pickM m sel)[j]? = some g := by
  simp only [pickM, List.getElem?_map, hs, Option.map_some, List.getD_eq_getElem?_getD, hg, Option.getD_some]
theorem pickM_back {sel : List Nat} {j i : Nat} {g : Gh} (hs : sel[j]? = some i) (hi : i < m.length) (hg : (pickM m sel)[j]? = some g) : m[i]? = some g := by
  simp only [pickM, List.getElem?_map, hs, Option.map_some, Option.some.injEq, List.getD_eq_getElem?_getD] at hg
  rw [List.getElem?_eq_getElem hi] at hg ⊢
  simpa using hg
theorem pick_ren (sel : List Nat) : RenOK (idx sel 0) m (pickM m sel) := by
  intro id j hj g hg
  obtain ⟨_, h2⟩ := idx_get hj
  exact pickM_get (by simpa using h2) hg
theorem Inv.pick (hi : Inv G m h w) {sel : List Nat} (hn : nodupB sel = true) (hgh : ∀ x ∈ G.gh, sel[x.1]? = some x.1) : Inv G (pickM m sel) (pickH h (idx sel 0) sel) w := by
  refine ⟨by simp [pickM, pickH_length], fun j ob gj hj hgj => ?_, fun j ob gj c hj hgj hc => ?_, fun j1 j2 o1 o2 g1 g2 b c hne q1 q2 q3 q4 q5 q6 q7 q8 => ?_, hi.str, hi.size, hi.frame, hi.fz, fun x hx => ⟨by rw [pickH_length]; exact (List.getElem?_eq_some_iff.1 (hgh x hx)).1, fun ox ho => ?_⟩⟩
  rotate_right
  · obtain ⟨i, o, h1, h2, _⟩ := pickH_get _ ho
    rw [hgh x hx] at h1
    cases h1
    exact (hi.gh x hx).2 o h2
  · obtain ⟨i, o, h1, h2, rfl⟩ := pickH_get _ hj
    have hg := pickM_back h1 (by rw [hi.len]; exact hget_lt h2) hgj
    obtain ⟨hs, cs, hoc, hp⟩ := hi.obs i o gj h2 hg
    exact ⟨seqG_xsh (xsh_rens _ _) hs, cs, hoc.ren (pick_ren sel), hp⟩
  · obtain ⟨i, o, h1, h2, rfl⟩ := pickH_get _ hj
    exact hi.own i o gj c h2 (pickM_back h1 (by rw [hi.len]; exact hget_lt h2) hgj) hc
  · obtain ⟨i1, p1, a1, a2, rfl⟩ := pickH_get _ q1
    obtain ⟨i2, p2, b1, b2, rfl⟩ := pickH_get _ q2
    refine hi.dist i1 i2 p1 p2 g1 g2 b c (fun e => ?_) a2 b2 q3 q4 (pickM_back a1 (by rw [hi.len]; exact hget_lt a2) q5) (pickM_back b1 (by rw [hi.len]; exact hget_lt b2) q6) q7 q8
    subst e
    exact hne (nodupB_get hn a1 b1)
theorem Placed.lent {g : Gh} {ro : Bool} {cs : List Value} (h : Placed g w ro cs) : Placed g w true cs := by
  rcases h with h | ⟨b, blk, t, fr, c1, c2, c3, c4, c5, _⟩
  · exact .inl h
  · exact .inr ⟨b, blk, t, fr, c1, c2, c3, c4, c5, fun h0 => by cases h0⟩
theorem lend_one (hi : Inv G m h w) {id off lo len : Nat} {cap : Option Nat} {k : EK} {l : List k.den} {v : Value} (hx : LRel m (.slice id off lo len cap) v) (hv : vis h (.slice id off lo len cap) = some ⟨k, l⟩) :
    ∃ g ob, hget h id = some ob ∧ SeqG g [.seq k 0 l] ∧ Placed g w ob.ro (cvs k l) ∧ (∀ b, g.addr = some b → ∃ gi c, m[id]? = some gi ∧ gi.addr = some c ∧ c.1 = b.1) ∧
      ∀ (mm : GM) (n : Nat), mm[n]? = some g → LRel mm (.full n) v := by
  have hv2 : visK k h (.slice id off lo len cap) = some l := by simp [visK, hv, cast_refl]
  have hrd := (visK_run (P := default) hi hx hv2).2.2
  obtain ⟨g0, A, C, hg0, rfl, hle, hcap, hln, hbb⟩ := hx
  obtain ⟨hlen, hcell⟩ := hrd A len C rfl
  obtain ⟨ob, hob⟩ : ∃ ob, hget h id = some ob := by
    simp only [vis] at hv
    split at hv
    · rename_i ob hob; exact ⟨ob, hob⟩
    · cases hv
  rcases hbb with hC | ⟨b, hb, hA, hsz⟩
  · have hl0 : l = [] := List.eq_nil_of_length_eq_zero (by omega)
    subst hl0
    refine ⟨ghOf none 0 [.seq k 0 []], ob, hob, ghOf_seq _ _ _, .inl ⟨rfl, rfl⟩, fun b hb => (by cases hb), fun mm n hg => ⟨_, hg, _, A, C, hg, ?_, ?_, ?_, ?_, .inl hC⟩⟩
    · simp [ghOf, drop0, hlen]
    · simp [ghOf, drop0]
    · intro c' hc; cases hc
    · simp
  · obtain ⟨hsg, cs, hoc, hpl⟩ := hi.obs id ob g0 hob hg0
    rcases hpl with ⟨_, h0⟩ | ⟨b', blk, t, fr, q1, q2, q3, q4, q5, q6⟩
    · rw [hb] at h0; cases h0
    · rw [hb] at q1
      cases q1
      have hkw : k.w = g0.ew off := by
        simp only [vis, hob] at hv
        split at hv
        · rename_i k2 n2 l2 r2 hes
          simp only [Option.some.injEq, Sigma.mk.injEq] at hv
          obtain ⟨rfl, _⟩ := hv
          exact (hsg off _ n2 l2 r2 hes).2
        · cases hv
      have hfit : (lo + len) * k.w ≤ (lo + C) * k.w := Nat.mul_le_mul_right _ (by omega)
      rw [← hkw] at hsz
      refine ⟨ghOf (some (b.1, b.2 + off + lo * k.w)) g0.sz [.seq k 0 l], ob, hob, ghOf_seq _ _ _, .inr ⟨_, blk, t, fr, rfl, q2, q3, ?_, fun j hj => ?_, q6⟩, fun b2 hb2 => ?_, fun mm n hg => ⟨_, hg, _, A, C, hg, ?_, ?_, ?_, ?_, .inr ⟨_, rfl, ?_, ?_⟩⟩⟩
      · rw [cvs_length, ← hlen]
        simp only [ghOf]
        simp only [Nat.add_mul] at hfit hsz
        omega
      · have hne : l.length ≠ 0 := fun h0 => by rw [cvs_length, h0] at hj; simp at hj
        obtain ⟨p, hp, hc⟩ := hcell w (Ext.refl w) hne
        rw [hA] at hp
        cases hp
        have := hc j _ (List.getElem?_eq_getElem hj)
        rw [add_at] at this
        simp only [World.cell?, at_, q2] at this
        rw [List.getElem?_eq_getElem hj, ← this, ← hkw]
        simp [Nat.add_assoc]
      · cases hb2; exact ⟨g0, b, hg0, hb, rfl⟩
      · simp [ghOf, drop0, hlen]
      · simp [ghOf, drop0]; omega
      · intro c' hc; cases hc
      · simp
      · rw [hA, hkw]; simp [at_, Nat.add_assoc]
      · simp only [ghOf, drop0]
        simp only [Nat.add_mul] at hsz ⊢
        omega
theorem view_one (hi : Inv G m h w) {id lo len : Nat} {cap : Option Nat} {ro : Bool} {k : EK} {l : List k.den} {v : Value} (hid : hget h id = some ⟨ro, [.seq k 0 l]⟩) (hx : LRel m (.slice id 0 lo len cap) v) :
    ∃ g, Inv G (m ++ [g]) (hset h id none ++ [some ⟨ro, [.seq k 0 ((l.drop lo).take len)]⟩]) w ∧ LRel (m ++ [g]) (.full h.length) v := by
  have hv : vis h (.slice id 0 lo len cap) = some ⟨k, (l.drop lo).take len⟩ := by simp [vis, hid, drop0]
  obtain ⟨g, ob, hob, hsg, hpl, hfr, hfull⟩ := lend_one hi hx hv
  rw [hid] at hob
  cases hob
  have hd := hi.drop id
  have hlen : (hset h id none).length = h.length := hset_length _ _ _
  refine ⟨g, hd.add ⟨hsg, _, seq_cells _ k _, hpl⟩ (fun b hb => ?_) (fun hro b hb j oj gj c hj hroj hgj hc => ?_), ?_⟩
  · obtain ⟨gi, c, h1, h2, h3⟩ := hfr b hb
    rw [← h3]
    exact hi.own id ⟨ro, [.seq k 0 l]⟩ gi c hid h1 h2
  · obtain ⟨gi, c', h1, h2, h3⟩ := hfr b hb
    rcases hget_hset hj with ⟨_, h0⟩ | ⟨hne, hj⟩
    · cases h0
    · rw [← h3]
      exact hi.dist j id oj ⟨ro, [.seq k 0 l]⟩ gj gi c c' hne hj hid hroj hro hgj h1 hc h2
  · have := hfull (m ++ [g]) m.length (by simp)
    rw [hi.len] at this
    exact this
theorem tidyL_rel (all : List Nat) (i : Nat) : ∀ (l : List LV) {m : GM} {h : Heap} {cs : List Value} (_ : Inv G m h w), OCells m l cs → ∃ t, Inv G (m ++ t) (tidyL all i l h).2 w ∧ (tidyL all i l h).1.map xsh = l.map xsh ∧ h.length ≤ (tidyL all i l h).2.length ∧
    (∀ ob, hget h i = some ob → hget (tidyL all i l h).2 i = some ob) ∧ OCells (m ++ t) (tidyL all i l h).1 cs := by
  intro l
  induction l with
  | nil => intro m h cs hi ho; exact ⟨[], by simpa [tidyL] using hi, rfl, Nat.le_refl _, fun ob ho => ho, by simpa [tidyL] using ho⟩
  | cons x r ih =>
    intro m h cs hi ho
    obtain ⟨a, b, rfl, hx, hr⟩ := ho
    have other : tidyL all i (x :: r) h = (x :: (tidyL all i r h).1, (tidyL all i r h).2) → ∃ t, Inv G (m ++ t) (tidyL all i (x :: r) h).2 w ∧ (tidyL all i (x :: r) h).1.map xsh = (x :: r).map xsh ∧ h.length ≤ (tidyL all i (x :: r) h).2.length ∧
        (∀ ob, hget h i = some ob → hget (tidyL all i (x :: r) h).2 i = some ob) ∧ OCells (m ++ t) (tidyL all i (x :: r) h).1 (a ++ b) := by
      intro he
      obtain ⟨t, h1, h2, h3, h4, h5⟩ := ih hi hr
      rw [he]
      exact ⟨t, h1, by simp only [List.map_cons, h2], h3, h4, a, b, rfl, hx.mono (pre_append _ _), h5⟩
    by_cases hs : ∃ id off lo len cap, x = .slice id off lo len cap
    · obtain ⟨id, off, lo, len, cap, rfl⟩ := hs
      cases hob : hget h id with
      | none => exact other (by simp only [tidyL, hob])
      | some ob =>
        obtain ⟨ro, es⟩ := ob
        by_cases hes : ro = false ∧ ∃ k n l, es = [.seq k n l]
        · obtain ⟨rfl, k, n, l, rfl⟩ := hes
          by_cases hc : id ≠ i ∧ off = 0 ∧ n = 0 ∧ cntN id all = 1
          · obtain ⟨hne, rfl, rfl, hcn⟩ := hc
            have e1 : tidyL all i (.slice id 0 lo len cap :: r) h = (.full h.length :: (tidyL all i r (hset h id none ++ [some ⟨false, [.seq k 0 ((l.drop lo).take len)]⟩])).1, (tidyL all i r (hset h id none ++ [some ⟨false, [.seq k 0 ((l.drop lo).take len)]⟩])).2) := by
              simp only [tidyL, hob]
              rw [if_pos ⟨hne, trivial, trivial, hcn⟩]
            obtain ⟨v, rfl, hv⟩ := hx
            obtain ⟨g, hi', hfl⟩ := view_one hi hob hv
            obtain ⟨t, h1, h2, h3, h4, h5⟩ := ih hi' (hr.mono (pre_append _ _))
            rw [e1]
            refine ⟨[g] ++ t, by rw [← List.append_assoc]; exact h1, by simp only [List.map_cons, h2]; rfl, ?_, fun ob ho => h4 ob ?_, ?_⟩
            · simp only [List.length_append, hset_length, List.length_singleton] at h3
              exact Nat.le_trans (Nat.le_succ _) h3
            · rw [hget_append_left (by rw [hset_length]; exact hget_lt ho), hget_hset_ne hne]; exact ho
            · rw [← List.append_assoc]
              exact ⟨[v], b, rfl, ⟨v, rfl, hfl.mono (pre_append _ _)⟩, h5⟩
          · refine other ?_
            simp only [tidyL, hob]
            rw [if_neg hc]
        · refine other ?_
          simp only [tidyL, hob]
          split
          · rename_i k n l heq
            injection heq with heq
            injection heq with hq heq
            exact absurd ⟨hq, _, _, _, heq⟩ hes
          · rfl
    · refine other ?_
      cases x
      case slice => exact absurd ⟨_, _, _, _, _, rfl⟩ hs
      all_goals rfl
theorem Inv.swapO (hi : Inv G m h w) {id : Nat} {ob : Ob} {es' : List LV} (hid : hget h id = some ob) (ho : ∀ g, m[id]? = some g → ObRel m g w ⟨ob.ro, es'⟩) :
    Inv G m (hset h id (some ⟨ob.ro, es'⟩)) w := by
  refine ⟨by rw [hset_length]; exact hi.len, fun j o gj hj hgj => ?_, fun j o gj c hj hgj hc => ?_, fun i j oi oj gi gj b c hne h1 h2 h3 h4 h5 h6 h7 h8 => ?_, hi.str, hi.size, hi.frame, hi.fz, fun x hx => ⟨by rw [hset_length]; exact (hi.gh x hx).1, fun ox ho => ?_⟩⟩
  rotate_right
  · rcases hget_hset ho with ⟨he, _⟩ | ⟨_, ho⟩
    · exact (hi.gh x hx).2 ob (by rw [he]; exact hid)
    · exact (hi.gh x hx).2 ox ho
  · rcases hget_hset hj with ⟨rfl, h0⟩ | ⟨hne, hj⟩
    · cases h0; exact ho gj hgj
    · exact hi.obs j o gj hj hgj
  · rcases hget_hset hj with ⟨rfl, h0⟩ | ⟨hne, hj⟩
    · cases h0; exact hi.own j ob gj c hid hgj hc
    · exact hi.own j o gj c hj hgj hc
  · rcases hget_hset h1 with ⟨e1, h0⟩ | ⟨n1, q1⟩
    · cases h0
      rcases hget_hset h2 with ⟨e2, h0'⟩ | ⟨n2, q2⟩
      · exact absurd (e1.trans e2.symm) hne
      · exact hi.dist i j ob oj gi gj b c hne (by rw [e1]; exact hid) q2 h3 h4 h5 h6 h7 h8
    · rcases hget_hset h2 with ⟨e2, h0⟩ | ⟨n2, q2⟩
      · cases h0
        exact hi.dist i j oi ob gi gj b c hne q1 (by rw [e2]; exact hid) h3 h4 h5 h6 h7 h8
      · exact hi.dist i j oi oj gi gj b c hne q1 q2 h3 h4 h5 h6 h7 h8
theorem tidyH_rel (all : List Nat) : ∀ (n i : Nat) {m : GM} {h : Heap} (_ : Inv G m h w), ∃ t, Inv G (m ++ t) (tidyH all n i h) w ∧ h.length ≤ (tidyH all n i h).length
  | 0, i, m, h, hi => ⟨[], by simpa [tidyH] using hi, Nat.le_refl _⟩
  | n + 1, i, m, h, hi => by
    simp only [tidyH]
    split
    · rename_i ro es hob
      obtain ⟨g, hg⟩ := hi.ghost hob
      obtain ⟨hs, cs, hoc, hp⟩ := hi.obs i _ g hob hg
      obtain ⟨t, h1, h2, h3, h4, h5⟩ := tidyL_rel all i es hi hoc
      have hob' := h4 _ hob
      have hsw := h1.swapO (es' := (tidyL all i es h).1) hob' fun g' hg' => by
        have : m[i]? = some g' := by
          rw [List.getElem?_append_left (List.getElem?_eq_some_iff.1 hg).1] at hg'; exact hg'
        rw [hg] at this; cases this
        exact ⟨seqG_xsh h2 hs, cs, h5, hp⟩
      obtain ⟨t', h6, h7⟩ := tidyH_rel all n (i + 1) hsw
      refine ⟨t ++ t', by rw [← List.append_assoc]; exact h6, Nat.le_trans ?_ h7⟩
      rw [hset_length]; exact h3
    · exact tidyH_rel all n (i + 1) hi
theorem restOf_mem {n0 : Nat} {mv : List Nat} : ∀ {l : List Nat} {i : Nat}, i ∈ restOf n0 mv l → n0 ≤ i ∨ memN i mv = true
  | [], i, h => by cases h
  | a :: r, i, h => by
    simp only [restOf] at h
    split at h
    · split at h
      · rename_i hm
        rcases List.mem_cons.1 h with rfl | h
        · exact .inr hm
        · exact restOf_mem h
      · exact restOf_mem h
    · rcases List.mem_cons.1 h with rfl | h
      · exact .inl (by omega)
      · exact restOf_mem h
theorem pickP_length (f : Nat → Option Nat) (mv : List Nat) : ∀ (n i : Nat), (pickP h f mv n i).length = n
  | 0, _ => rfl
  | n + 1, i => by simp [pickP, pickP_length f mv n]
theorem pickP_get (f : Nat → Option Nat) (mv : List Nat) : ∀ {n s j : Nat} {ob : Ob}, hget (pickP h f mv n s) j = some ob → j < n ∧ memN (s + j) mv = false ∧ ∃ o, hget h (s + j) = some o ∧ ob = ⟨o.ro, renLs f o.es⟩
  | 0, s, j, ob, hg => by simp [pickP, hget] at hg
  | n + 1, s, 0, ob, hg => by
    simp only [pickP, hget] at hg
    split at hg
    · cases hg
    · rename_i hm
      cases ho : hget h s with
      | none => rw [ho] at hg; simp [renO] at hg
      | some o =>
        rw [ho] at hg
        simp only [renO, Option.some.injEq] at hg
        exact ⟨by omega, by simpa using hm, o, by simp, hg.symm⟩
  | n + 1, s, j + 1, ob, hg => by
    simp only [pickP, hget] at hg
    obtain ⟨h1, h2, o, h3, h4⟩ := pickP_get f mv hg
    exact ⟨by omega, by rw [show s + (j + 1) = s + 1 + j by omega]; exact h2, o, by rw [show s + (j + 1) = s + 1 + j by omega]; exact h3, h4⟩
theorem pickB_get {n0 : Nat} {mv rest : List Nat} (f : Nat → Option Nat) {j : Nat} {ob : Ob} (hg : hget (pickP h f mv n0 0 ++ pickH h f rest) j = some ob) :
    ∃ i o, hget h i = some o ∧ ob = ⟨o.ro, renLs f o.es⟩ ∧ ((j < n0 ∧ i = j ∧ memN j mv = false) ∨ (n0 ≤ j ∧ rest[j - n0]? = some i)) := by
  by_cases hj : j < (pickP h f mv n0 0).length
  · rw [hget_append_left hj] at hg
    obtain ⟨h1, h2, o, h3, h4⟩ := pickP_get f mv hg
    rw [Nat.zero_add] at h2 h3
    exact ⟨j, o, h3, h4, .inl ⟨h1, rfl, h2⟩⟩
  · rw [hget_append_right (by omega), pickP_length] at hg
    rw [pickP_length] at hj
    obtain ⟨i, o, h1, h2, h3⟩ := pickH_get f hg
    exact ⟨i, o, h2, h3, .inr ⟨by omega, h1⟩⟩
def pickB (m : GM) (n0 : Nat) (rest : List Nat) : GM := m.take n0 ++ pickM m rest
theorem pickB_ren {n0 : Nat} (hn0 : n0 ≤ m.length) (mv rest : List Nat) : RenOK (mvF n0 mv rest) m (pickB m n0 rest) := by
  intro id j hj g hg
  have tail : idx rest n0 id = some j → (pickB m n0 rest)[j]? = some g := by
    intro hj
    obtain ⟨h1, h2⟩ := idx_get hj
    unfold pickB
    rw [List.getElem?_append_right (by rw [List.length_take]; omega), List.length_take, Nat.min_eq_left hn0]
    exact pickM_get h2 hg
  unfold mvF at hj
  split at hj
  · rename_i hlt
    split at hj
    · exact tail hj
    · cases hj
      unfold pickB
      rw [List.getElem?_append_left (by rw [List.length_take]; omega), List.getElem?_take, if_pos hlt]
      exact hg
  · exact tail hj
theorem Inv.pickB (hi : Inv G m h w) {n0 : Nat} (hn0 : n0 ≤ m.length) {mv rest : List Nat} (hn : nodupB rest = true) (hrest : ∀ {i : Nat}, i ∈ rest → n0 ≤ i ∨ memN i mv = true) (hgh : ∀ x ∈ G.gh, x.1 < n0) :
    Inv G (pickB m n0 rest) (pickP h (mvF n0 mv rest) mv n0 0 ++ pickH h (mvF n0 mv rest) rest) w := by
  have gm : ∀ {j i : Nat} {g : Gh} {o : Ob}, hget h i = some o → ((j < n0 ∧ i = j ∧ memN j mv = false) ∨ (n0 ≤ j ∧ rest[j - n0]? = some i)) → (Ev.pickB m n0 rest)[j]? = some g → m[i]? = some g := by
    intro j i g o ho hc hg
    unfold Ev.pickB at hg
    rcases hc with ⟨h1, rfl, _⟩ | ⟨h1, h2⟩
    · rw [List.getElem?_append_left (by rw [List.length_take]; omega), List.getElem?_take, if_pos h1] at hg
      exact hg
    · rw [List.getElem?_append_right (by rw [List.length_take]; omega), List.length_take, Nat.min_eq_left hn0] at hg
      exact pickM_back h2 (by rw [hi.len]; exact hget_lt ho) hg
  have inj : ∀ {j1 j2 i : Nat}, ((j1 < n0 ∧ i = j1 ∧ memN j1 mv = false) ∨ (n0 ≤ j1 ∧ rest[j1 - n0]? = some i)) → ((j2 < n0 ∧ i = j2 ∧ memN j2 mv = false) ∨ (n0 ≤ j2 ∧ rest[j2 - n0]? = some i)) → j1 = j2 := by
    intro j1 j2 i h1 h2
    rcases h1 with ⟨a1, rfl, a3⟩ | ⟨a1, a2⟩
    · rcases h2 with ⟨_, b2, _⟩ | ⟨b1, b2⟩
      · exact b2
      · rcases hrest (List.mem_of_getElem? b2) with h3 | h3
        · omega
        · rw [a3] at h3; cases h3
    · rcases h2 with ⟨b1, rfl, b3⟩ | ⟨b1, b2⟩
      · rcases hrest (List.mem_of_getElem? a2) with h3 | h3
        · omega
        · rw [b3] at h3; cases h3
      · have := nodupB_get hn a2 b2
        omega
  refine ⟨by simp [Ev.pickB, pickM, pickH_length, pickP_length]; omega, fun j ob gj hj hgj => ?_, fun j ob gj c hj hgj hc => ?_, fun j1 j2 o1 o2 g1 g2 b c hne q1 q2 q3 q4 q5 q6 q7 q8 => ?_, hi.str, hi.size, hi.frame, hi.fz, fun x hx => ⟨by have := hgh x hx; simp [pickH_length, pickP_length]; omega, fun ox ho => ?_⟩⟩
  rotate_right
  · obtain ⟨i, o, h1, _, h3⟩ := pickB_get _ ho
    rcases h3 with ⟨_, rfl, _⟩ | ⟨h3, _⟩
    · exact (hi.gh x hx).2 o h1
    · have := hgh x hx; omega
  · obtain ⟨i, o, h1, rfl, h3⟩ := pickB_get _ hj
    obtain ⟨hs, cs, hoc, hp⟩ := hi.obs i o gj h1 (gm h1 h3 hgj)
    exact ⟨seqG_xsh (xsh_rens _ _) hs, cs, hoc.ren (pickB_ren hn0 mv rest), hp⟩
  · obtain ⟨i, o, h1, rfl, h3⟩ := pickB_get _ hj
    exact hi.own i o gj c h1 (gm h1 h3 hgj) hc
  · obtain ⟨i1, p1, a1, rfl, a3⟩ := pickB_get _ q1
    obtain ⟨i2, p2, b1, rfl, b3⟩ := pickB_get _ q2
    refine hi.dist i1 i2 p1 p2 g1 g2 b c (fun e => ?_) a1 b1 q3 q4 (gm a1 a3 q5) (gm b1 b3 q6) q7 q8
    subst e
    exact hne (inj a3 b3)
theorem normVs_sound (hi : Inv G m h w) {n0 : Nat} (hn0 : n0 ≤ m.length) (hgh : ∀ x ∈ G.gh, x.1 < n0) {kn : Bool} {mv : List Nat} {vs : List TV} {xs : List Value} (hx : TVs m vs xs) {K : List TV → Heap → Option Res} {r : Res} (hev : normVs kn n0 mv vs h K = some r) :
    ∃ vs' h' m', K vs' h' = some r ∧ Inv G m' h' w ∧ TVs m' vs' xs ∧ n0 ≤ m'.length ∧ ∀ i, i < n0 → m'[i]? = m[i]? := by
  unfold normVs at hev
  simp only at hev
  split at hev
  · cases hev
  · rename_i hnd
    obtain ⟨t, h2, h3⟩ : ∃ t, Inv G (m ++ t) (matK kn vs h).2 w ∧ ∀ xs, TVs m vs xs → TVs (m ++ t) (matK kn vs h).1 xs := by
      cases kn with
      | true => exact ⟨[], by simpa [matK] using hi, fun xs hx => by simpa [matK] using hx⟩
      | false => obtain ⟨t, u, h1, h2, h3⟩ := matVs_rel vs hi; exact ⟨t, h2, fun xs hx => h3 xs hx⟩
    obtain ⟨t', h4, h5⟩ := matH_rel (matK kn vs h).2.length 0 h2
    obtain ⟨t2, h6, h7⟩ := tidyH_rel (idsOfVs (matK kn vs h).1 ++ allIds (matH (matK kn vs h).2.length 0 (matK kn vs h).2) (reach (matH (matK kn vs h).2.length 0 (matK kn vs h).2) fuelR (seqN n0 0 ++ idsOfVs (matK kn vs h).1) [])) (matH (matK kn vs h).2.length 0 (matK kn vs h).2).length 0 h4
    have hn0' : n0 ≤ (m ++ t ++ t' ++ t2).length := by simp; omega
    have hnd' : ∀ {b : Bool}, ¬ (!b) = true → b = true := fun {b} h => by cases b <;> simp_all
    refine ⟨_, _, _, hev, h6.pickB hn0' (hnd' hnd) (fun hm => restOf_mem hm) hgh, (((h3 xs hx).mono (pre_append _ _)).mono (pre_append _ _)).ren (pickB_ren hn0' mv _), ?_, fun i hlt => ?_⟩
    · simp [pickB]; omega
    · unfold pickB
      rw [List.getElem?_append_left (by rw [List.length_take]; omega), List.getElem?_take, if_pos hlt]
      simp only [List.append_assoc]
      rw [List.getElem?_append_left (by omega)]
end
end
section
variable [FZ]
variable {P : Program}
def ResRel (m : GM) : List TV → Value → Prop
  | [x], v => TVRel m x v
  | l, v => ∃ vs, v = .tuple vs ∧ TVs m l vs.toList
def Contract (P : Program) (f : FuncId) (vs : List TV) (h : Heap) (K : List TV → Heap → Option Res) (r : Res) : Prop :=
  ∀ (G : Ctx) (m : GM) (w : World) (cvs : List Value), G.w0 = w → G.dfs = [] → G.gh = [] → Inv G m h w → TVs m vs cvs →
    Calls P f cvs.toArray w fun e w' => ∃ rs h', K rs h' = some r ∧ ∃ v t, e = .returned v ∧ ResRel (m ++ t) rs v ∧ Inv G (m ++ t) h' w'
structure SoundFn (P : Program) (f : FuncId) (S : Summ) : Prop where
  enter : ∀ args w, (callFunc f args).run P w = .ok (.enter f args) w
  ok : ∀ vs h K r, S vs h K = some r → Contract P f vs h K r
section
variable {G : Ctx} {m : GM} {h : Heap} {w w' : World}
theorem nones_get (n j : Nat) : hget (nones n) j = none := by
  induction n generalizing j with
  | zero => rfl
  | succ n ih => cases j with
    | zero => rfl
    | succ j => exact ih j
theorem nones_length (n : Nat) : (nones n).length = n := by
  induction n with
  | zero => rfl
  | succ n ih => simp [nones, ih]
theorem app_nones {n j : Nat} {ob : Ob} (hg : hget (h ++ nones n) j = some ob) : hget h j = some ob := by
  by_cases hj : j < h.length
  · rwa [hget_append_left hj] at hg
  · rw [hget_append_right (by omega), nones_get] at hg; cases hg
theorem newO_get (f : Nat → Option Nat) : ∀ {h : Heap} {j : Nat} {ob : Ob}, hget (newO f h) j = some ob → ∃ es, hget h j = some ⟨false, es⟩ ∧ ob = ⟨false, renLs f es⟩
  | [], j, ob, hg => by simp [newO, hget] at hg
  | some ⟨false, es⟩ :: r, 0, ob, hg => by simp only [newO, hget, Option.some.injEq] at hg; exact ⟨es, rfl, hg.symm⟩
  | some ⟨true, es⟩ :: r, 0, ob, hg => by simp [newO, hget] at hg
  | none :: r, 0, ob, hg => by simp [newO, hget] at hg
  | some ⟨false, es⟩ :: r, j + 1, ob, hg => by simp only [newO, hget] at hg; exact newO_get f (h := r) (j := j) hg
  | some ⟨true, es⟩ :: r, j + 1, ob, hg => by simp only [newO, hget] at hg; exact newO_get f (h := r) (j := j) hg
  | none :: r, j + 1, ob, hg => by simp only [newO, hget] at hg; exact newO_get f (h := r) (j := j) hg
theorem newO_length (f : Nat → Option Nat) : ∀ (h : Heap), (newO f h).length = h.length
  | [] => rfl
  | some ⟨false, es⟩ :: r => by simp [newO, newO_length f r]
  | some ⟨true, es⟩ :: r => by simp [newO, newO_length f r]
  | none :: r => by simp [newO, newO_length f r]
theorem dropN_get : ∀ (n : Nat) (h : Heap) (j : Nat), hget (dropN n h) j = hget h (n + j)
  | 0, h, j => by simp [dropN]
  | n + 1, [], j => by simp [dropN, hget]
  | n + 1, x :: r, j => by rw [show n + 1 + j = (n + j) + 1 by omega]; simp only [dropN, hget]; exact dropN_get n r j
theorem dropN_length : ∀ (n : Nat) (h : Heap), (dropN n h).length = h.length - n
  | 0, h => by simp [dropN]
  | n + 1, [] => by simp [dropN]
  | n + 1, x :: r => by simp [dropN, dropN_length n r]
theorem putBack_get (f : Nat → Option Nat) (n1 : Nat) : ∀ {sel : List Nat} {hs h : Heap} {id : Nat} {ob : Ob}, nodupB sel = true → hget (putBack f n1 sel hs h) id = some ob →
    (∃ j o o0, sel[j]? = some id ∧ id < n1 ∧ hget hs j = some o ∧ hget h id = some o0 ∧ ob = ⟨o0.ro, renLs f o.es⟩) ∨
    (id ∉ sel ∧ hget h id = some ob) ∨
    (∃ t es, id = h.length + t ∧ hget hs (sel.length + t) = some ⟨false, es⟩ ∧ ob = ⟨false, renLs f es⟩)
  | [], hs, h, id, ob, hn, hg => by
    simp only [putBack] at hg
    by_cases hj : id < h.length
    · rw [hget_append_left hj] at hg; exact .inr (.inl ⟨by simp, hg⟩)
    · rw [hget_append_right (by omega)] at hg
      obtain ⟨es, h1, h2⟩ := newO_get f hg
      exact .inr (.inr ⟨id - h.length, es, by omega, by simpa using h1, h2⟩)
  | i :: sel, [], h, id, ob, hn, hg => by
    simp only [putBack] at hg
    simp only [nodupB, Bool.and_eq_true] at hn
    rcases putBack_get f n1 hn.2 hg with ⟨j, o, o0, h1, h2, h3, h4, h6⟩ | ⟨h1, h2⟩ | ⟨t, es, h1, h2, h3⟩
    · simp [hget] at h3
    · rcases hget_hset h2 with ⟨_, h0⟩ | ⟨hne, h2⟩
      · cases h0
      · exact .inr (.inl ⟨by simp [hne, h1], h2⟩)
    · simp [hget] at h2
  | i :: sel, x :: hs, h, id, ob, hn, hg => by
    simp only [putBack] at hg
    simp only [nodupB, Bool.and_eq_true, Bool.not_eq_true'] at hn
    have hni : i ∉ sel := fun hm => by rw [← memN_iff] at hm; rw [hm] at hn; exact absurd hn.1 (by simp)
    rcases putBack_get f n1 hn.2 hg with ⟨j, o, o0, h1, h2, h3, h4, h6⟩ | ⟨h1, h2⟩ | ⟨t, es, h1, h2, h3⟩
    · have hne : i ≠ id := fun e => by subst e; exact hni (List.mem_of_getElem? h1)
      rw [hget_hset_ne hne] at h4
      exact .inl ⟨j + 1, o, o0, by simpa using h1, h2, h3, h4, h6⟩
    · rcases hget_hset h2 with ⟨rfl, h0⟩ | ⟨hne, h2⟩
      · unfold backO at h0
        split at h0
        · rename_i hlt
          split at h0
          · rename_i ra ea rb eb ha
            simp only [Option.some.injEq] at h0
            exact .inl ⟨0, ⟨rb, eb⟩, ⟨ra, ea⟩, rfl, hlt, rfl, ha, h0.symm⟩
          · cases h0
        · cases h0
      · exact .inr (.inl ⟨by simp [hne, h1], h2⟩)
    · rw [hset_length] at h1
      refine .inr (.inr ⟨t, es, h1, ?_, h3⟩)
      rw [List.length_cons, show sel.length + 1 + t = (sel.length + t) + 1 by omega]
      exact h2
theorem putBack_length (f : Nat → Option Nat) (n1 : Nat) : ∀ (sel : List Nat) (hs h : Heap), (putBack f n1 sel hs h).length = h.length + (hs.length - sel.length)
  | [], hs, h => by simp [putBack, newO_length]
  | i :: sel, [], h => by simp only [putBack]; rw [putBack_length f n1 sel, hset_length]; simp
  | i :: sel, x :: hs, h => by simp only [putBack]; rw [putBack_length f n1 sel, hset_length]; simp
structure Lent (G : Ctx) (m : GM) (h1 : Heap) (w : World) (u : Heap) (t : GM) (ids : List Nat) : Prop where
  len : t.length = u.length
  obs : ∀ j ob g, hget u j = some ob → t[j]? = some g → ob.ro = true ∧ ObRel (m ++ t) g w ob
  from_ : ∀ j ob g b, hget u j = some ob → t[j]? = some g → g.addr = some b → (∃ i o gi c, i ∈ ids ∧ hget h1 i = some o ∧ m[i]? = some gi ∧ gi.addr = some c ∧ c.1 = b.1) ∨ (¬ G.O b.1 ∧ b.1 < G.w0.heap.size)
theorem lend_sl (hi : Inv G m h w) {q : SK} {x : Sl q} {v : Value} (hx : LRel m (.sl q x) v) :
    ∃ g, SeqG g [.seq q.ek 0 (q.toL x.dat)] ∧ Placed g w true (cvs q.ek (q.toL x.dat)) ∧ (∀ b, g.addr = some b → ¬ G.O b.1 ∧ b.1 < G.w0.heap.size) ∧ ∀ (mm : GM) (n : Nat), mm[n]? = some g → LRel mm (.full n) v := by
  have hv : v = .slice x.a x.dat.length x.cap := hx
  subst hv
  rcases sl_block hi x with ⟨hcap, hdat⟩ | ⟨b, blk, t, fr, h1, h2, h3, h4, h5, h6, h7⟩
  · have e0 : q.toL x.dat = [] := List.eq_nil_of_length_eq_zero (by rw [toL_length, hdat]; rfl)
    refine ⟨ghOf none 0 [.seq q.ek 0 (q.toL x.dat)], ghOf_seq _ _ _, .inl ⟨by rw [e0]; rfl, rfl⟩, fun b hb => (by cases hb), fun mm n hg => ⟨_, hg, _, x.a, x.cap, hg, ?_, ?_, ?_, ?_, .inl hcap⟩⟩
    · simp [ghOf, drop0, toL_length]
    · simp [ghOf, drop0, toL_length, hdat]
    · intro c' hc; cases hc
    · simp
  · have hcl : (cvs q.ek (q.toL x.dat)).length = x.dat.length := by rw [cvs_length, toL_length, ek_w, Nat.mul_one]
    refine ⟨ghOf (some b) blk.size [.seq q.ek 0 (q.toL x.dat)], ghOf_seq _ _ _, .inr ⟨b, blk, t, fr, rfl, h2, rfl, ?_, fun j hj => h5 j (by omega), fun h0 => by cases h0⟩, fun b' hb => (by cases hb; exact ⟨h6, h7⟩), fun mm n hg => ⟨_, hg, _, x.a, x.cap, hg, ?_, ?_, ?_, ?_, .inr ⟨b, rfl, ?_, ?_⟩⟩⟩
    · rw [hcl]; simp only [ghOf]; omega
    · simp [ghOf, drop0, toL_length]
    · simp [ghOf, drop0, toL_length]; exact h3
    · intro c' hc; cases hc
    · simp
    · rw [h1]; simp
    · simp only [ghOf, drop0, ek_w]; omega
end
end
section
variable [FZ]
variable {P : Program}
section
variable {G : Ctx} {m : GM} {h : Heap} {w w' : World}
theorem lend_nil : Lent G m h w [] [] [] := ⟨rfl, fun j ob g hg => by simp [hget] at hg, fun j ob g b hg => by simp [hget] at hg⟩
theorem Lent.snoc {u : Heap} {t : GM} {ids : List Nat} (hl : Lent G m h w u t ids) {g : Gh} {k : EK} {l : List k.den} (hsg : SeqG g [.seq k 0 l]) (hpl : Placed g w true (cvs k l)) {id : Nat} {ob : Ob} (hob : hget h id = some ob)
    (hfr : ∀ b, g.addr = some b → ∃ gi c, m[id]? = some gi ∧ gi.addr = some c ∧ c.1 = b.1) : Lent G m h w (u ++ [some ⟨true, [.seq k 0 l]⟩]) (t ++ [g]) (ids ++ [id]) := by
  refine ⟨by simp [hl.len], fun j o gj hj hgj => ?_, fun j o gj b hj hgj hb => ?_⟩
  · rcases hget_app hj with ⟨hlt, hj⟩ | ⟨rfl, h0⟩
    · rw [List.getElem?_append_left (by rw [hl.len]; exact hlt)] at hgj
      obtain ⟨h1, h2, cs, h3, h4⟩ := hl.obs j o gj hj hgj
      refine ⟨h1, h2, cs, ?_, h4⟩
      rw [← List.append_assoc]
      exact h3.mono (pre_append _ _)
    · cases h0
      rw [← hl.len] at hgj
      simp at hgj
      subst hgj
      exact ⟨rfl, hsg, _, seq_cells _ k l, hpl⟩
  · rcases hget_app hj with ⟨hlt, hj⟩ | ⟨rfl, h0⟩
    · rw [List.getElem?_append_left (by rw [hl.len]; exact hlt)] at hgj
      rcases hl.from_ j o gj b hj hgj hb with ⟨i, o', gi, c, h1, h2⟩ | h0
      · exact .inl ⟨i, o', gi, c, by simp [h1], h2⟩
      · exact .inr h0
    · cases h0
      rw [← hl.len] at hgj
      simp at hgj
      subst hgj
      obtain ⟨gi, c, h1, h2⟩ := hfr b hb
      exact .inl ⟨id, ob, gi, c, by simp, hob, h1, h2⟩
theorem Lent.snoc' {u : Heap} {t : GM} {ids : List Nat} (hl : Lent G m h w u t ids) {g : Gh} {k : EK} {l : List k.den} (hsg : SeqG g [.seq k 0 l]) (hpl : Placed g w true (cvs k l))
    (hfr : ∀ b, g.addr = some b → ¬ G.O b.1 ∧ b.1 < G.w0.heap.size) : Lent G m h w (u ++ [some ⟨true, [.seq k 0 l]⟩]) (t ++ [g]) ids := by
  refine ⟨by simp [hl.len], fun j o gj hj hgj => ?_, fun j o gj b hj hgj hb => ?_⟩
  · rcases hget_app hj with ⟨hlt, hj⟩ | ⟨rfl, h0⟩
    · rw [List.getElem?_append_left (by rw [hl.len]; exact hlt)] at hgj
      obtain ⟨h1, h2, cs, h3, h4⟩ := hl.obs j o gj hj hgj
      refine ⟨h1, h2, cs, ?_, h4⟩
      rw [← List.append_assoc]
      exact h3.mono (pre_append _ _)
    · cases h0
      rw [← hl.len] at hgj
      simp at hgj
      subst hgj
      exact ⟨rfl, hsg, _, seq_cells _ k l, hpl⟩
  · rcases hget_app hj with ⟨hlt, hj⟩ | ⟨rfl, h0⟩
    · rw [List.getElem?_append_left (by rw [hl.len]; exact hlt)] at hgj
      exact hl.from_ j o gj b hj hgj hb
    · cases h0
      rw [← hl.len] at hgj
      simp at hgj
      subst hgj
      exact .inr (hfr b hb)
theorem FzW.sub (hi : Inv G m h w) {a : Option Addr} {cap : Nat} {cs : List Value} (hf : FzW G a cap cs) {O' : Nat → Prop} (ho : ∀ b, O' b → G.O b ∨ G.w0.heap.size ≤ b) : FzW (Ctx.of w O') a cap cs := by
  rcases hf with hf | ⟨b, blk, t, fr, h1, h2, h3, h4, h5, h6⟩
  · exact .inl hf
  · have hlt := (Array.getElem?_eq_some_iff.1 h2).1
    refine .inr ⟨b, blk, t, fr, h1, by show w.heap[b.1]? = _; rw [hi.frame _ hlt h6]; exact h2, h3, h4, h5, fun h0 => ?_⟩
    rcases ho _ h0 with h7 | h7
    · exact h6 h7
    · omega
theorem lendVs_rel (hi : Inv G m h w) : ∀ (vs : List TV) (xs : List Value) (u : Heap) (t : GM) (ids : List Nat), Lent G m h w u t ids → TVs m vs xs →
    ∃ u' t' , (lendVs vs (h ++ u)).2.1 = h ++ u ++ u' ∧ Lent G m h w (u ++ u') (t ++ t') (ids ++ (lendVs vs (h ++ u)).2.2) ∧ TVs (m ++ (t ++ t')) (lendVs vs (h ++ u)).1 xs
  | [], xs, u, t, ids, hl, hx => ⟨[], [], by simp [lendVs], by simpa [lendVs] using hl, by cases xs <;> exact hx⟩
  | v :: r, [], u, t, ids, hl, hx => hx.elim
  | v :: r, x :: xs, u, t, ids, hl, hx => by
    have other : (∀ id off lo len cap, v ≠ .lf (.slice id off lo len cap)) → (∀ q y, v ≠ .lf (.sl q y)) → lendVs (v :: r) (h ++ u) = (v :: (lendVs r (h ++ u)).1, (lendVs r (h ++ u)).2.1, (lendVs r (h ++ u)).2.2) := by
      intro hne hne2
      cases v with
      | agg l => rfl
      | lf y =>
        cases y
        case slice => exact absurd rfl (hne _ _ _ _ _)
        case sl => exact absurd rfl (hne2 _ _)
        all_goals rfl
    by_cases hs : ∃ id off lo len cap, v = .lf (.slice id off lo len cap)
    · obtain ⟨id, off, lo, len, cap, rfl⟩ := hs
      have hxl : LRel m (.slice id off lo len cap) x := hx.1
      have hidlt : id < h.length := by
        obtain ⟨g, _, _, hg, _⟩ := hxl
        rw [← hi.len]
        exact (List.getElem?_eq_some_iff.1 hg).1
      have hvis : vis (h ++ u) (.slice id off lo len cap) = vis h (.slice id off lo len cap) := by
        simp only [vis, hget_append_left hidlt]
      cases hv : vis h (.slice id off lo len cap) with
      | none =>
        obtain ⟨u', t', h1, h2, h3⟩ := lendVs_rel hi r xs u t ids hl hx.2
        refine ⟨u', t', ?_, ?_, ?_⟩
        · simp only [lendVs, hvis, hv]; exact h1
        · simp only [lendVs, hvis, hv]; exact h2
        · simp only [lendVs, hvis, hv]; exact ⟨hxl.leaf, h3⟩
      | some kl =>
        obtain ⟨k, l⟩ := kl
        obtain ⟨g, ob, hob, hsg, hpl, hfr, hfull⟩ := lend_one hi hxl hv
        have hl' := hl.snoc hsg hpl.lent hob hfr
        obtain ⟨u', t', h1, h2, h3⟩ := lendVs_rel hi r xs _ _ _ hl' hx.2
        refine ⟨[some ⟨true, [.seq k 0 l]⟩] ++ u', [g] ++ t', ?_, ?_, ?_⟩
        · simp only [lendVs, hvis, hv]
          rw [← List.append_assoc] at h1
          rw [h1]; simp
        · simp only [lendVs, hvis, hv]
          rw [← List.append_assoc] at h1 h2
          simp only [List.append_assoc] at h2 ⊢
          exact h2
        · simp only [lendVs, hvis, hv]
          refine ⟨hfull _ _ ?_, ?_⟩
          · rw [List.length_append, ← hi.len, ← hl.len]
            simp
          · simp only [List.append_assoc] at h3 ⊢
            exact h3
    · have hne : ∀ id off lo len cap, v ≠ .lf (.slice id off lo len cap) := fun id off lo len cap e => hs ⟨id, off, lo, len, cap, e⟩
      by_cases hs2 : ∃ q y, v = .lf (.sl q y)
      · obtain ⟨q, y, rfl⟩ := hs2
        obtain ⟨g, hsg, hpl, hfr, hfull⟩ := lend_sl hi hx.1
        have hl' := hl.snoc' hsg hpl hfr
        obtain ⟨u', t', h1, h2, h3⟩ := lendVs_rel hi r xs _ _ _ hl' hx.2
        refine ⟨[some ⟨true, [.seq q.ek 0 (q.toL y.dat)]⟩] ++ u', [g] ++ t', ?_, ?_, ?_⟩
        · simp only [lendVs]
          rw [← List.append_assoc] at h1
          rw [h1]; simp
        · simp only [lendVs]
          rw [← List.append_assoc] at h1 h2
          simp only [List.append_assoc] at h2 ⊢
          exact h2
        · simp only [lendVs]
          refine ⟨hfull _ _ ?_, ?_⟩
          · rw [List.length_append, ← hi.len, ← hl.len]
            simp
          · simp only [List.append_assoc] at h3 ⊢
            exact h3
      · obtain ⟨u', t', h1, h2, h3⟩ := lendVs_rel hi r xs u t ids hl hx.2
        rw [other hne (fun q y e => hs2 ⟨q, y, e⟩)]
        exact ⟨u', t', h1, h2, hx.1.mono (pre_append _ _), h3⟩
theorem allLt_get {n : Nat} : ∀ {l : List Nat}, allLtB n l = true → ∀ {j i : Nat}, l[j]? = some i → i < n
  | [], _, j, i, h => by simp at h
  | a :: r, ha, j, i, h => by
    simp only [allLtB] at ha
    split at ha
    · rename_i hlt
      cases j with
      | zero => simp at h; subst h; exact hlt
      | succ j => exact allLt_get ha (by simpa using h)
    · cases ha
theorem anyMem_false : ∀ {l s : List Nat}, anyMem l s = false → ∀ {a : Nat}, a ∈ l → a ∉ s
  | [], _, _, a, h => by cases h
  | b :: r, s, hf, a, h => by
    simp only [anyMem] at hf
    split at hf
    · cases hf
    · rename_i hb
      rcases List.mem_cons.1 h with rfl | h
      · intro hm; rw [← memN_iff] at hm; exact hb hm
      · exact anyMem_false hf h
theorem roAll_get : ∀ {h : Heap} {j : Nat} {ob : Ob}, hget (roAll h) j = some ob → ∃ o, hget h j = some o ∧ ob = ⟨true, o.es⟩
  | [], j, ob, hg => by simp [roAll, hget] at hg
  | some o :: r, 0, ob, hg => by simp only [roAll, hget, Option.some.injEq] at hg; exact ⟨o, rfl, hg.symm⟩
  | none :: r, 0, ob, hg => by simp [roAll, hget] at hg
  | some o :: r, j + 1, ob, hg => by simp only [roAll, hget] at hg; exact roAll_get (h := r) (j := j) hg
  | none :: r, j + 1, ob, hg => by simp only [roAll, hget] at hg; exact roAll_get (h := r) (j := j) hg
theorem roAll_length : ∀ (h : Heap), (roAll h).length = h.length
  | [] => rfl
  | some o :: r => by simp [roAll, roAll_length r]
  | none :: r => by simp [roAll, roAll_length r]
theorem back_ren {sel : List Nat} {t : GM} (hlt : ∀ {j i : Nat}, sel[j]? = some i → i < m.length) : RenOK (backIds sel m.length) (pickM m sel ++ t) (m ++ t) := by
  intro j i hj g hg
  simp only [backIds] at hj
  have hpl : (pickM m sel).length = sel.length := by simp [pickM]
  split at hj
  · rename_i i' hi'
    simp only [Option.some.injEq] at hj
    subst hj
    have hjl : j < sel.length := (List.getElem?_eq_some_iff.1 hi').1
    rw [List.getElem?_append_left (by omega)] at hg
    have := pickM_back hi' (hlt hi') hg
    rw [List.getElem?_append_left (hlt hi')]
    exact this
  · rename_i hn
    simp only [Option.some.injEq] at hj
    subst hj
    have hjl : sel.length ≤ j := List.getElem?_eq_none_iff.1 hn
    rw [List.getElem?_append_right (by omega), hpl] at hg
    rw [List.getElem?_append_right (by omega)]
    rw [show m.length + (j - sel.length) - m.length = j - sel.length by omega]
    exact hg
theorem ResRel.ren {f : Nat → Option Nat} {m m' : GM} (hf : RenOK f m m') {rs : List TV} {v : Value} (h : ResRel m rs v) : ResRel m' (renVs f rs) v := by
  match rs, h with
  | [], ⟨vs, e, h⟩ => exact ⟨vs, e, h.ren hf⟩
  | [x], h => exact TVRel.ren hf h
  | x :: y :: r, ⟨vs, e, h⟩ => exact ⟨vs, e, h.ren hf⟩
theorem pickH_at (f : Nat → Option Nat) : ∀ {sel : List Nat} {j i : Nat} {o : Ob}, sel[j]? = some i → hget h i = some o → hget (pickH h f sel) j = some ⟨o.ro, renLs f o.es⟩
  | [], j, i, o, h1, _ => by simp at h1
  | a :: sel, 0, i, o, h1, h2 => by
    simp only [List.getElem?_cons_zero, Option.some.injEq] at h1
    subst h1
    simp [pickH, hget, h2, renO]
  | a :: sel, j + 1, i, o, h1, h2 => by
    simp only [List.getElem?_cons_succ] at h1
    simp only [pickH, hget]
    exact pickH_at f h1 h2
theorem callS_sound (hi : Inv G m h w) {f : FuncId} {S : Summ} (hs : SoundFn P f S) {dr : Bool} {args : List TV} {cvs : List Value} (hx : TVs m args cvs) {K : List TV → Heap → Option Res} {r : Res}
    (hev : callS dr S args h K = some r) :
    Calls P f cvs.toArray w fun e w' => ∃ rs h', K rs h' = some r ∧ ∃ v t, e = .returned v ∧ ResRel (m ++ t) rs v ∧ Inv G (m ++ t) h' w' ∧ (dr = true → Ext w w') := by
  unfold callS at hev
  obtain ⟨t1, u1, e1, i1, x1⟩ := matVs_rel args hi
  obtain ⟨t2, i2, _⟩ := matH_rel (matVs args h).2.length 0 i1
  simp only at hev
  generalize hq1 : (matVs args h).1 = q1 at *
  generalize hq2 : (matVs args h).2 = q2 at *
  generalize hh1 : matH q2.length 0 q2 = h1 at *
  have x2 : TVs (m ++ t1 ++ t2) q1 cvs := (x1 cvs hx).mono (pre_append _ _)
  generalize hm1 : m ++ t1 ++ t2 = m1 at *
  obtain ⟨u3, t3, e3, l3, x3⟩ := lendVs_rel i2 q1 cvs [] [] [] lend_nil x2
  simp only [List.append_nil, List.nil_append] at e3 l3 x3
  generalize hp1 : (lendVs q1 h1).1 = p1 at *
  generalize hp2 : (lendVs q1 h1).2.1 = h2 at *
  generalize hp3 : (lendVs q1 h1).2.2 = ids at *
  generalize hsel : reach h2 fuelR (idsOfVs p1) [] = sel at *
  have len1 : m1.length = h1.length := i2.len
  have len2 : (m1 ++ t3).length = h2.length := by rw [e3]; simp [len1, l3.len]
  have le12 : h1.length ≤ h2.length := by rw [e3]; simp
  -- the objects as the callee sees them
  have obs2 : ∀ (i : Nat) o g, hget h2 i = some o → (m1 ++ t3)[i]? = some g → ObRel (m1 ++ t3) g w o := by
    intro i o g ho hg
    rw [e3] at ho
    by_cases hlt : i < h1.length
    · rw [hget_append_left hlt] at ho
      rw [List.getElem?_append_left (by omega)] at hg
      obtain ⟨a1, cs, a2, a3⟩ := i2.obs i o g ho hg
      exact ⟨a1, cs, a2.mono (pre_append _ _), a3⟩
    · rw [hget_append_right (by omega)] at ho
      rw [List.getElem?_append_right (by omega), len1] at hg
      exact (l3.obs _ o g ho hg).2
  have lent_ro : ∀ (i : Nat) o, hget h2 i = some o → o.ro = false → i < h1.length ∧ hget h1 i = some o := by
    intro i o ho hro
    rw [e3] at ho
    by_cases hlt : i < h1.length
    · rw [hget_append_left hlt] at ho; exact ⟨hlt, ho⟩
    · rw [hget_append_right (by omega)] at ho
      have hjl : i - h1.length < t3.length := by rw [l3.len]; exact hget_lt ho
      have := (l3.obs _ o _ ho (List.getElem?_eq_getElem hjl)).1
      rw [hro] at this; cases this
  have get1 : ∀ (i : Nat) g, i < h1.length → (m1 ++ t3)[i]? = some g → m1[i]? = some g := fun i g hlt hg => by
    rwa [List.getElem?_append_left (by omega)] at hg
  have blk_lt : ∀ (i : Nat) o g b, hget h2 i = some o → (m1 ++ t3)[i]? = some g → g.addr = some b → b.1 < w.heap.size := by
    intro i o g b ho hg hb
    obtain ⟨_, cs, _, hp⟩ := obs2 i o g ho hg
    rcases hp with ⟨_, h0⟩ | ⟨b', blk, t, fr, q1, q2, _⟩
    · rw [hb] at h0; cases h0
    · rw [hb] at q1; cases q1; exact (Array.getElem?_eq_some_iff.1 q2).1
  split at hev
  · cases hev
  rename_i hnd
  have hnd' : nodupB sel = true ∧ allLtB h2.length sel = true := by
    cases hq : (nodupB sel && allLtB h2.length sel) with
    | true => simpa using hq
    | false => exact absurd (by rw [hq]; rfl) hnd
  obtain ⟨hnod, hall⟩ := hnd'
  have hlt2 : ∀ {j i : Nat}, sel[j]? = some i → i < (m1 ++ t3).length := fun hj => by rw [len2]; exact allLt_get hall hj
  have hren : RenOK (idx sel 0) (m1 ++ t3) (pickM (m1 ++ t3) sel) := pick_ren sel
  have hmt : ∀ t : GM, m1 ++ t3 ++ t = m ++ (t1 ++ t2 ++ t3 ++ t) := fun t => by rw [← hm1]; simp [List.append_assoc]
  split at hev
  · -- all is lent
    rename_i hdr
    have hcon := hs.ok _ _ _ _ hev
    let G' : Ctx := Ctx.of w fun _ => False
    have ic : Inv G' (pickM (m1 ++ t3) sel) (roAll (pickH h2 (idx sel 0) sel)) w := by
      refine ⟨by rw [roAll_length, pickH_length]; simp [pickM], fun j ob gj hj hgj => ?_, fun j ob gj c hj hgj hc => ?_, fun j1 j2 o1 o2 g1 g2 b c hne q1 q2 q3 _ _ _ _ _ => ?_, Str.refl w, Nat.le_refl _, fun _ _ _ => rfl, fun a cap cs ok => (i2.fz a cap cs ok).sub i2 fun b h0 => h0.elim, fun x hx => by cases hx⟩
      · obtain ⟨o', ho', rfl⟩ := roAll_get hj
        obtain ⟨i, o, a1, a2, rfl⟩ := pickH_get _ ho'
        have hg := pickM_back a1 (hlt2 a1) hgj
        obtain ⟨b1, cs, b2, b3⟩ := obs2 i o gj a2 hg
        refine ⟨seqG_xsh (xsh_rens _ _) b1, cs, b2.ren hren, ?_⟩
        rcases b3 with b3 | ⟨b, blk, t, fr, c1, c2, c3, c4, c5, _⟩
        · exact .inl b3
        · exact .inr ⟨b, blk, t, fr, c1, c2, c3, c4, c5, fun h0 => by cases h0⟩
      · obtain ⟨o', ho', rfl⟩ := roAll_get hj
        obtain ⟨i, o, a1, a2, rfl⟩ := pickH_get _ ho'
        exact ⟨fun h0 => h0, blk_lt i o gj c a2 (pickM_back a1 (hlt2 a1) hgj) hc, trivial⟩
      · obtain ⟨o', ho', rfl⟩ := roAll_get q1
        cases q3
    refine (hcon G' _ w cvs rfl rfl rfl ic (x3.ren hren)).mono ?_
    rintro e w' ⟨rs, h', hK, v, t, rfl, hrv, ir⟩
    have hext : Ext w w' := ⟨ir.str, ir.size, fun b hb => ir.frame b hb (fun h0 => h0)⟩
    have hb := back_ren (m := m1 ++ t3) (sel := sel) (t := t) hlt2
    rw [len2] at hb
    refine ⟨_, _, hK, v, t1 ++ t2 ++ t3 ++ t, rfl, by rw [← hmt]; exact hrv.ren hb, ?_, fun _ => hext⟩
    rw [← hmt]
    have hpl : (pickM (m1 ++ t3) sel).length = sel.length := by simp [pickM]
    have hlh' : h'.length = sel.length + t.length := by have := ir.len; simp [hpl] at this; omega
    have hbase : (h1 ++ nones (h2.length - h1.length)).length = h2.length := by
      rw [List.length_append, nones_length]
      have : h1.length ≤ h2.length := by rw [e3]; simp
      omega
    have hcase : ∀ (j : Nat) ob g, hget (h1 ++ nones (h2.length - h1.length) ++ newO (backIds sel h2.length) (dropN sel.length h')) j = some ob → (m1 ++ t3 ++ t)[j]? = some g →
        (j < h1.length ∧ hget h1 j = some ob ∧ m1[j]? = some g) ∨ (∃ q es, j = h2.length + q ∧ hget h' (sel.length + q) = some ⟨false, es⟩ ∧ ob = ⟨false, renLs (backIds sel h2.length) es⟩ ∧ (pickM (m1 ++ t3) sel ++ t)[sel.length + q]? = some g) := by
      intro j ob g hj hg
      by_cases hjl : j < (h1 ++ nones (h2.length - h1.length)).length
      · rw [hget_append_left hjl] at hj
        have hj' := app_nones hj
        have hl := hget_lt hj'
        refine .inl ⟨hl, hj', ?_⟩
        rw [List.getElem?_append_left (by omega)] at hg
        exact get1 j g hl hg
      · rw [hget_append_right (by omega)] at hj
        obtain ⟨es, hn, rfl⟩ := newO_get _ hj
        rw [dropN_get] at hn
        rw [hbase] at hn hjl
        refine .inr ⟨j - h2.length, es, by omega, hn, rfl, ?_⟩
        rw [List.getElem?_append_right (by rw [len2]; omega), len2] at hg
        rw [List.getElem?_append_right (by omega), hpl]
        rw [show sel.length + (j - h2.length) - sel.length = j - h2.length by omega]
        exact hg
    refine ⟨?_, fun j ob g hj hg => ?_, fun j ob g c hj hg hc => ?_, fun i j oi oj gi gj b c hne q1 q2 q3 q4 q5 q6 q7 q8 => ?_, i2.str.trans hext.str, Nat.le_trans i2.size hext.size, fun b hb hO => (hext.block b (Nat.lt_of_lt_of_le hb i2.size)).trans (i2.frame b hb hO), i2.fz, fun x hx => ?_⟩
    rotate_right
    · have hxl := (i2.gh x hx).1
      refine ⟨?_, fun ox ho => ?_⟩
      · rw [List.length_append, hbase]; omega
      · rw [List.append_assoc, hget_append_left hxl] at ho
        obtain ⟨h8, h9⟩ := (i2.gh x hx).2 ox ho
        exact ⟨hext.get h8, h9⟩
    · rw [List.length_append, len2, List.length_append, hbase, newO_length, dropN_length, hlh']; omega
    · rcases hcase j ob g hj hg with ⟨_, a2, a3⟩ | ⟨q, es, rfl, a2, rfl, a4⟩
      · obtain ⟨b1, cs, b2, b3⟩ := i2.obs j ob g a2 a3
        exact ⟨b1, cs, (b2.mono (pre_append _ _)).mono (pre_append _ _), b3.ext hext⟩
      · obtain ⟨b1, cs, b2, b3⟩ := ir.obs _ _ g a2 a4
        exact ⟨seqG_xsh (xsh_rens _ _) b1, cs, b2.ren hb, b3⟩
    · rcases hcase j ob g hj hg with ⟨_, a2, a3⟩ | ⟨q, es, rfl, a2, rfl, a4⟩
      · exact i2.own j ob g c a2 a3 hc
      · have := ir.own _ _ g c a2 a4 hc
        simp only [Own, Bool.false_eq_true, if_false] at this ⊢
        rcases this with h0 | h0
        · exact h0.elim
        · exact .inr (Nat.le_trans i2.size h0)
    · rcases hcase i oi gi q1 q5 with ⟨_, a2, a3⟩ | ⟨q, es, rfl, a2, rfl, a4⟩
      · rcases hcase j oj gj q2 q6 with ⟨_, b2, b3⟩ | ⟨q', es', rfl, b2, rfl, b4⟩
        · exact i2.dist i j oi oj gi gj b c hne a2 b2 q3 q4 a3 b3 q7 q8
        · have h1 := i2.block_lt a2 a3 q7
          have h2 := ir.own _ _ gj c b2 b4 q8
          simp only [Own, Bool.false_eq_true, if_false] at h2
          rcases h2 with h0 | h0
          · exact h0.elim
          · intro e
            have : w.heap.size ≤ c.1 := h0
            omega
      · rcases hcase j oj gj q2 q6 with ⟨_, b2, b3⟩ | ⟨q', es', rfl, b2, rfl, b4⟩
        · have h1 := i2.block_lt b2 b3 q8
          have h2 := ir.own _ _ gi b a2 a4 q7
          simp only [Own, Bool.false_eq_true, if_false] at h2
          rcases h2 with h0 | h0
          · exact h0.elim
          · intro e
            have : w.heap.size ≤ b.1 := h0
            omega
        · exact ir.dist _ _ _ _ gi gj b c (by omega) a2 b2 rfl rfl a4 b4 q7 q8
  · rename_i hdr
    split at hev
    · cases hev
    rename_i hany
    have hany' : anyMem ids sel = false := by simpa using hany
    have hcon := hs.ok _ _ _ _ hev
    let G' : Ctx := Ctx.of w fun b => ∃ i o g b0, i ∈ sel ∧ hget h2 i = some o ∧ o.ro = false ∧ (m1 ++ t3)[i]? = some g ∧ g.addr = some b0 ∧ b0.1 = b
    -- what the callee owns is the caller's own
    have ownO : ∀ b, G'.O b → G.O b ∨ G.w0.heap.size ≤ b := by
      rintro b ⟨i, o, g, b0, hs1, ho, hro, hg, hb0, rfl⟩
      obtain ⟨hlt, ho1⟩ := lent_ro i o ho hro
      have := i2.own i o g b0 ho1 (get1 i g hlt hg) hb0
      rw [hro] at this
      simpa [Own] using this
    have apart : ∀ (i : Nat) o g b0, hget h1 i = some o → m1[i]? = some g → g.addr = some b0 → (o.ro = true ∨ i ∉ sel) → ¬ G'.O b0.1 := by
      rintro i o g b0 ho hg hb0 hc ⟨i', o', g', b', hs1, ho', hro', hg', hb', he⟩
      obtain ⟨hlt', ho1'⟩ := lent_ro i' o' ho' hro'
      have hg1' := get1 i' g' hlt' hg'
      by_cases hii : i = i'
      · subst hii
        rw [ho] at ho1'
        cases ho1'
        rcases hc with hc | hc
        · rw [hro'] at hc; cases hc
        · exact hc hs1
      · cases hro : o.ro with
        | false => exact i2.dist i i' o o' g g' b0 b' hii ho ho1' hro hro' hg hg1' hb0 hb' he.symm
        | true =>
          have a1 := i2.own i o g b0 ho hg hb0
          have a2 := i2.own i' o' g' b' ho1' hg1' hb'
          rw [hro] at a1
          rw [hro'] at a2
          simp only [Own, if_true, Bool.false_eq_true, if_false] at a1 a2
          rw [he] at a2
          rcases a2 with a2 | a2
          · exact a1.1 a2
          · omega
    have ic : Inv G' (pickM (m1 ++ t3) sel) (pickH h2 (idx sel 0) sel) w := by
      refine ⟨by rw [pickH_length]; simp [pickM], fun j ob gj hj hgj => ?_, fun j ob gj c hj hgj hc => ?_, fun j1 j2 o1 o2 g1 g2 b c hne q1 q2 q3 q4 q5 q6 q7 q8 => ?_, Str.refl w, Nat.le_refl _, fun _ _ _ => rfl, fun a cap cs ok => (i2.fz a cap cs ok).sub i2 ownO, fun x hx => by cases hx⟩
      · obtain ⟨i, o, a1, a2, rfl⟩ := pickH_get _ hj
        have hg := pickM_back a1 (hlt2 a1) hgj
        obtain ⟨b1, cs, b2, b3⟩ := obs2 i o gj a2 hg
        exact ⟨seqG_xsh (xsh_rens _ _) b1, cs, b2.ren hren, b3⟩
      · obtain ⟨i, o, a1, a2, rfl⟩ := pickH_get _ hj
        have hg := pickM_back a1 (hlt2 a1) hgj
        have hblt := blk_lt i o gj c a2 hg hc
        cases hro : o.ro with
        | false =>
          simp only [Own, Bool.false_eq_true, if_false]
          exact .inl ⟨i, o, gj, c, List.mem_of_getElem? a1, a2, hro, hg, hc, rfl⟩
        | true =>
          simp only [Own, if_true]
          refine ⟨?_, hblt, trivial⟩
          rw [e3] at a2
          by_cases hlt : i < h1.length
          · rw [hget_append_left hlt] at a2
            exact apart i o gj c a2 (get1 i gj hlt hg) hc (.inl hro)
          · rw [hget_append_right (by omega)] at a2
            rw [List.getElem?_append_right (by omega), len1] at hg
            rcases l3.from_ _ o gj c a2 hg hc with ⟨i0, o0, g0, c0, d1, d2, d3, d4, d5⟩ | ⟨d1, d2⟩
            · rw [← d5]
              exact apart i0 o0 g0 c0 d2 d3 d4 (.inr (anyMem_false hany' d1))
            · intro h0
              rcases ownO _ h0 with h9 | h9
              · exact d1 h9
              · omega
      · obtain ⟨i1, p1', a1, a2, rfl⟩ := pickH_get _ q1
        obtain ⟨i2', p2', b1, b2, rfl⟩ := pickH_get _ q2
        obtain ⟨l1, a2'⟩ := lent_ro i1 p1' a2 q3
        obtain ⟨l2, b2'⟩ := lent_ro i2' p2' b2 q4
        refine i2.dist i1 i2' p1' p2' g1 g2 b c (fun e => ?_) a2' b2' q3 q4 (get1 i1 g1 l1 (pickM_back a1 (hlt2 a1) q5)) (get1 i2' g2 l2 (pickM_back b1 (hlt2 b1) q6)) q7 q8
        subst e
        exact hne (nodupB_get hnod a1 b1)
    refine (hcon G' _ w cvs rfl rfl rfl ic (x3.ren hren)).mono ?_
    rintro e w' ⟨rs, h', hK, v, t, rfl, hrv, ir⟩
    have hb := back_ren (m := m1 ++ t3) (sel := sel) (t := t) hlt2
    rw [len2] at hb
    refine ⟨_, _, hK, v, t1 ++ t2 ++ t3 ++ t, rfl, by rw [← hmt]; exact hrv.ren hb, ?_, fun h0 => absurd h0 hdr⟩
    rw [← hmt]
    have hpl : (pickM (m1 ++ t3) sel).length = sel.length := by simp [pickM]
    have hlh' : h'.length = sel.length + t.length := by have := ir.len; simp [hpl] at this; omega
    have hbase : (h1 ++ nones (h2.length - h1.length)).length = h2.length := by
      rw [List.length_append, nones_length]
      have : h1.length ≤ h2.length := by rw [e3]; simp
      omega
    -- the three kinds of objects behind the call
    have hcase : ∀ (j : Nat) ob g, hget (putBack (backIds sel h2.length) h1.length sel h' (h1 ++ nones (h2.length - h1.length))) j = some ob → (m1 ++ t3 ++ t)[j]? = some g →
        (j ∉ sel ∧ hget h1 j = some ob ∧ m1[j]? = some g) ∨
        (∃ q o o0, sel[q]? = some j ∧ j < h1.length ∧ hget h' q = some o ∧ hget h1 j = some o0 ∧ (∀ b, g.addr = some b → o0.ro = o.ro) ∧ ob = ⟨o0.ro, renLs (backIds sel h2.length) o.es⟩ ∧ (pickM (m1 ++ t3) sel ++ t)[q]? = some g ∧ m1[j]? = some g) ∨
        (∃ q es, hget h' (sel.length + q) = some ⟨false, es⟩ ∧ ob = ⟨false, renLs (backIds sel h2.length) es⟩ ∧ (pickM (m1 ++ t3) sel ++ t)[sel.length + q]? = some g ∧ j = h2.length + q) := by
      intro j ob g hj hg
      rcases putBack_get _ _ hnod hj with ⟨q, o, o0, c1, c2, c3, c4, c6⟩ | ⟨c1, c2⟩ | ⟨q, es, c1, c2, c3⟩
      · have hgj : m1[j]? = some g := get1 j g c2 (by rwa [List.getElem?_append_left (by omega)] at hg)
        have hq : q < sel.length := (List.getElem?_eq_some_iff.1 c1).1
        have hpk : (pickM (m1 ++ t3) sel)[q]? = some g := pickM_get c1 (by rw [List.getElem?_append_left (by omega)]; exact hgj)
        have hpk2 : (pickM (m1 ++ t3) sel ++ t)[q]? = some g := by rw [List.getElem?_append_left (by omega)]; exact hpk
        refine .inr (.inl ⟨q, o, o0, c1, c2, c3, app_nones c4, fun b hb0 => ?_, c6, hpk2, hgj⟩)
        have hin : ∃ oi, hget (pickH h2 (idx sel 0) sel) q = some oi ∧ oi.ro = o0.ro := by
          have h4 : hget h2 j = some o0 := by rw [e3, hget_append_left c2]; exact app_nones c4
          exact ⟨⟨o0.ro, renLs (idx sel 0) o0.es⟩, pickH_at _ c1 h4, rfl⟩
        obtain ⟨oi, hoi, hor⟩ := hin
        have w1 := ic.own q oi g b hoi hpk hb0
        have w2 := ir.own q o g b c3 hpk2 hb0
        rw [← hor]
        cases hA : oi.ro <;> cases hB : o.ro <;> first | rfl | skip
        · rw [hA] at w1; rw [hB] at w2
          simp only [Own, if_true, Bool.false_eq_true, if_false] at w1 w2
          rcases w1 with w1 | w1
          · exact absurd w1 w2.1
          · omega
        · rw [hA] at w1; rw [hB] at w2
          simp only [Own, if_true, Bool.false_eq_true, if_false] at w1 w2
          rcases w2 with w2 | w2
          · exact absurd w2 w1.1
          · omega
      · have hj1 := app_nones c2
        have hl := hget_lt hj1
        exact .inl ⟨c1, hj1, get1 j g hl (by rwa [List.getElem?_append_left (by omega)] at hg)⟩
      · rw [hbase] at c1
        refine .inr (.inr ⟨q, es, c2, c3, ?_, c1⟩)
        subst c1
        rw [List.getElem?_append_right (by omega), len2] at hg
        rw [List.getElem?_append_right (by omega), hpl]
        rw [show sel.length + q - sel.length = q by omega]
        rw [show h2.length + q - h2.length = q by omega] at hg
        exact hg
    have untouched : ∀ (j : Nat) ob g b0, j ∉ sel → hget h1 j = some ob → m1[j]? = some g → g.addr = some b0 → w'.heap[b0.1]? = w.heap[b0.1]? := by
      intro j ob g b0 hj ho hg hb0
      exact ir.frame b0.1 (i2.block_lt ho hg hb0) (apart j ob g b0 ho hg hb0 (.inr hj))
    have newOwn : ∀ (q : Nat) es g b0, hget h' (sel.length + q) = some ⟨false, es⟩ → (pickM (m1 ++ t3) sel ++ t)[sel.length + q]? = some g → g.addr = some b0 → G'.O b0.1 ∨ w.heap.size ≤ b0.1 := by
      intro q es g b0 a1 a2 a3
      have := ir.own _ _ g b0 a1 a2 a3
      simp only [Own, Bool.false_eq_true, if_false] at this
      exact this
    refine ⟨?_, fun j ob g hj hg => ?_, fun j ob g c hj hg hc => ?_, fun i j oi oj gi gj b c hne q1 q2 q3 q4 q5 q6 q7 q8 => ?_, i2.str.trans ir.str, Nat.le_trans i2.size ir.size, fun b hb hO => ?_, i2.fz, fun x hx => ?_⟩
    rotate_right
    · have hxl := (i2.gh x hx).1
      refine ⟨?_, fun ox ho => ?_⟩
      · rw [putBack_length, hbase]; omega
      · have alive : ∃ o0, hget h1 x.1 = some o0 := by
          rcases putBack_get _ _ hnod ho with ⟨q, o, o0, c1, c2, c3, c4, c6⟩ | ⟨c1, c2⟩ | ⟨q, es, c1, c2, c3⟩
          · exact ⟨o0, app_nones c4⟩
          · exact ⟨ox, app_nones c2⟩
          · rw [hbase] at c1; omega
        obtain ⟨o0, ho0⟩ := alive
        obtain ⟨h8, h9⟩ := (i2.gh x hx).2 o0 ho0
        refine ⟨(ir.frame _ (Array.getElem?_eq_some_iff.1 h8).1 ?_).trans h8, h9⟩
        rintro ⟨i', o', g', b', hs1, ho', hro', hg', hb', he⟩
        obtain ⟨_, cs, _, hp⟩ := obs2 i' o' g' ho' hg'
        rcases hp with ⟨_, h0⟩ | ⟨b2, blk, t, fr, q1, q2, _⟩
        · rw [hb'] at h0; cases h0
        · rw [hb'] at q1; cases q1
          rw [he, h8] at q2
          rw [Option.some.inj q2] at h9
          cases h9
    · rw [List.length_append, len2, putBack_length, hbase, hlh']; omega
    · rcases hcase j ob g hj hg with ⟨a0, a1, a2⟩ | ⟨q, o, o0, a1, a2, a3, a4, a5, rfl, a7, a8⟩ | ⟨q, es, a1, rfl, a3, _⟩
      · obtain ⟨b1, cs, b2, b3⟩ := i2.obs j ob g a1 a2
        refine ⟨b1, cs, (b2.mono (pre_append _ _)).mono (pre_append _ _), ?_⟩
        rcases b3 with b3 | ⟨b', blk, tt, fr, c1, c2, c3⟩
        · exact .inl b3
        · exact .inr ⟨b', blk, tt, fr, c1, by rw [untouched j ob g b' a0 a1 a2 c1]; exact c2, c3⟩
      · obtain ⟨b1, cs, b2, b3⟩ := ir.obs q o g a3 a7
        refine ⟨seqG_xsh (xsh_rens _ _) b1, cs, b2.ren hb, ?_⟩
        rcases b3 with b3 | ⟨b', blk, tt, fr, c1, c2, c3, c4, c5, c6⟩
        · exact .inl b3
        · exact .inr ⟨b', blk, tt, fr, c1, c2, c3, c4, c5, fun h0 => c6 (by rw [← a5 b' c1]; exact h0)⟩
      · obtain ⟨b1, cs, b2, b3⟩ := ir.obs _ _ g a1 a3
        exact ⟨seqG_xsh (xsh_rens _ _) b1, cs, b2.ren hb, b3⟩
    · rcases hcase j ob g hj hg with ⟨a0, a1, a2⟩ | ⟨q, o, o0, a1, a2, a3, a4, a5, rfl, a7, a8⟩ | ⟨q, es, a1, rfl, a3, _⟩
      · exact i2.own j ob g c a1 a2 hc
      · exact i2.own j o0 g c a4 a8 hc
      · rcases newOwn q es g c a1 a3 hc with h0 | h0
        · simp only [Own, Bool.false_eq_true, if_false]; exact ownO _ h0
        · simp only [Own, Bool.false_eq_true, if_false]; exact .inr (Nat.le_trans i2.size h0)
    · rcases hcase i oi gi q1 q5 with ⟨a0, a1, a2⟩ | ⟨q, o, o0, a1, a2, a3, a4, a5, rfl, a7, a8⟩ | ⟨q, es, a1, rfl, a3, aj⟩
      · rcases hcase j oj gj q2 q6 with ⟨b0, b1, b2⟩ | ⟨q', o', o0', b1, b2, b3, b4, b5, rfl, b7, b8⟩ | ⟨q', es', b1, rfl, b3, bj⟩
        · exact i2.dist i j oi oj gi gj b c hne a1 b1 q3 q4 a2 b2 q7 q8
        · exact i2.dist i j oi o0' gi gj b c hne a1 b4 q3 q4 a2 b8 q7 q8
        · intro e
          rcases newOwn q' es' gj c b1 b3 q8 with h0 | h0
          · rw [← e] at h0; exact apart i oi gi b a1 a2 q7 (.inr a0) h0
          · have := i2.block_lt a1 a2 q7; omega
      · rcases hcase j oj gj q2 q6 with ⟨b0, b1, b2⟩ | ⟨q', o', o0', b1, b2, b3, b4, b5, rfl, b7, b8⟩ | ⟨q', es', b1, rfl, b3, bj⟩
        · exact i2.dist i j o0 oj gi gj b c hne a4 b1 q3 q4 a8 b2 q7 q8
        · exact i2.dist i j o0 o0' gi gj b c hne a4 b4 q3 q4 a8 b8 q7 q8
        · have hq : q < sel.length := (List.getElem?_eq_some_iff.1 a1).1
          exact ir.dist q (sel.length + q') o _ gi gj b c (by omega) a3 b1 (by rw [← a5 b q7]; exact q3) rfl a7 b3 q7 q8
      · rcases hcase j oj gj q2 q6 with ⟨b0, b1, b2⟩ | ⟨q', o', o0', b1, b2, b3, b4, b5, rfl, b7, b8⟩ | ⟨q', es', b1, rfl, b3, bj⟩
        · intro e
          rcases newOwn q es gi b a1 a3 q7 with h0 | h0
          · rw [e] at h0; exact apart j oj gj c b1 b2 q8 (.inr b0) h0
          · have := i2.block_lt b1 b2 q8; omega
        · have hq : q' < sel.length := (List.getElem?_eq_some_iff.1 b1).1
          exact ir.dist (sel.length + q) q' _ o' gi gj b c (by omega) a1 b3 rfl (by rw [← b5 c q8]; exact q4) a3 b7 q7 q8
        · exact ir.dist _ _ _ _ gi gj b c (by omega) a1 b1 rfl rfl a3 b3 q7 q8
    · have h0 : b < w.heap.size := Nat.lt_of_lt_of_le hb i2.size
      rw [ir.frame b h0 (fun h1 => by
        rcases ownO b h1 with h2 | h2
        · exact hO h2
        · omega)]
      exact i2.frame b hb hO
end
end
section
variable [FZ]
variable {P : Program}
def SoundT (P : Program) (T : FuncId → Option Summ) : Prop := ∀ f S, T f = some S → SoundFn P f S
section
variable {G : Ctx} {m : GM} {h : Heap} {w w' : World} {a : Act} {env : Env} {o : Oper} {r : Res} {T : FuncId → Option Summ} {X : Xtra}
def Behind (P : Program) (G : Ctx) (m : GM) (w : World) (dr : Bool) (o : Oper) (K : AV → Heap → Option Res) (r : Res) (v : Value) (w' : World) : Prop :=
  ∃ av h' m', K av h' = some r ∧ Inv G m' h' w' ∧ Pre m m' ∧ (isTop av ∨ AVRel m' av v) ∧ (isLast P (!dr) o = false → Ext w w')
theorem retAV_rel {rs : List TV} {v : Value} (h : ResRel m rs v) : AVRel m (retAV rs) v := by
  match rs, h with
  | [], h => exact h
  | [x], h => exact h
  | x :: y :: r, h => exact h
theorem fnOf_rel (he : ERel G m env a) {x : Operand} {f : FuncId} {ids : List Nat} (hf : fnOf env x = some (f, ids)) : ∃ bs : Array Value, a.eval x = .func (.func f) #[] bs ∧ CapRel m ids bs.toList := by
  unfold fnOf at hf
  split at hf
  · cases hf; exact ⟨#[], rfl, trivial⟩
  · rename_i i
    split at hf
    · rename_i f' hi'
      cases hf
      rcases he.val i with h0 | h0
      · rw [hi'] at h0; exact h0.elim
      · rw [hi'] at h0; exact ⟨#[], h0, trivial⟩
    · rename_i f' ids' hi'
      cases hf
      rcases he.val i with h0 | h0
      · rw [hi'] at h0; exact h0.elim
      · rw [hi'] at h0; exact h0
    · cases hf
  · cases hf
theorem yldOf_rel (he : ERel G m env a) {x : Operand} {id : Nat} (hf : yldOf env x = some id) : ∃ l, a.eval x = .func (.yield l) #[] #[] ∧ LRel m (.yld id) (.func (.yield l) #[] #[]) := by
  unfold yldOf at hf
  split at hf
  · rename_i i
    split at hf
    · rename_i id' hi'
      cases hf
      rcases he.val i with h0 | h0
      · rw [hi'] at h0; exact h0.elim
      · rw [hi'] at h0
        obtain ⟨g, l, ob, h1, h2, h3⟩ := h0
        exact ⟨l, h3, g, l, ob, h1, h2, rfl⟩
    · cases hf
  · cases hf
theorem ptrs_rel : ∀ {ids : List Nat} {bs : List Value}, CapRel m ids bs → TVs m (ptrs ids) bs
  | [], [], _ => trivial
  | i :: r, v :: s, h => ⟨h.1, ptrs_rel h.2⟩
  | [], _ :: _, h => h.elim
  | _ :: _, [], h => h.elim
theorem TVs.append : ∀ {l l' : List TV} {xs xs' : List Value}, TVs m l xs → TVs m l' xs' → TVs m (l ++ l') (xs ++ xs')
  | [], l', [], xs', _, h' => h'
  | v :: l, l', x :: xs, xs', h, h' => ⟨h.1, TVs.append h.2 h'⟩
  | [], _, _ :: _, _, h, _ => h.elim
  | _ :: _, _, [], _, h, _ => h.elim
theorem evOp_run (hT : SoundT P T) (hi : Inv G m h w) (he : ERel G m env a) {dr : Bool} {K : AV → Heap → Option Res} (hev : evOp P T X dr o env h K = some r) :
    (∃ n v w', (execOp a.eval o).run P w = .ok n w' ∧ (n = .value v ∨ (n = .skip ∧ v = undef)) ∧ Behind P G m w dr o K r v w') ∨
    (∃ f args, (execOp a.eval o).run P w = .ok (.enter f args) w ∧ Calls P f args w fun e w' => ∃ v, e = .returned v ∧ Behind P G m w dr o K r v w') ∨
    (∃ y l args xs, X.y = some y ∧ (execOp a.eval o).run P w = (Instr.yield l xs.toArray).run P w ∧ TVs m args xs ∧ LRel m (.yld y.id) (.func (.yield l) #[] #[]) ∧
      isLast P (!dr) o = (!dr) ∧ y.run args h (fun b h' => K (.tv (.lf (.bool b))) h') = some r) := by
  unfold evOp at hev
  split at hev
  · obtain ⟨av, v, h1, h2, h3⟩ := evPure_sound hi he hev
    exact .inl ⟨_, v, w, h3 w (.inr (Ext.refl w)), .inl rfl, av, h, m, h1, hi, Pre.refl m, .inr h2, fun _ => Ext.refl w⟩
  · rename_i hnp
    have eff : evEff P o env h K = some r → (∃ n v w', (execOp a.eval o).run P w = .ok n w' ∧ (n = .value v ∨ (n = .skip ∧ v = undef)) ∧ Behind P G m w dr o K r v w') := by
      intro hev
      obtain ⟨av, h', h1, n, v, w', m', h2, h3, h4, h5, h6, h7⟩ := evEff_sound hi he hev
      refine ⟨n, v, w', h2, h3, av, h', m', h1, h4, h5, h6, fun hd => h7 ?_⟩
      unfold isLast at hd
      rw [Bool.eq_false_iff.2 hnp] at hd
      simp only [Bool.not_false, Bool.true_and, Bool.or_eq_false_iff] at hd
      exact hd.1
    split at hev
    · rename_i c hc
      split at hev
      · rename_i xf hxf
        split at hev
        · rename_i id hid
          split at hev
          · rename_i y args hy hargs
            split at hev
            · rename_i hide
              obtain ⟨l, h1, h2⟩ := yldOf_rel he hid
              have hx := (argVals_rel he hargs).vals
              subst hide
              refine .inr (.inr ⟨y, l, args, c.args.toList.map a.eval, hy, ?_, hx, h2, ?_, hev⟩)
              · simp only [execOp, hc, resolve, hxf, h1, Deferred.ofValue, Sem.run_bind, Sem.run_pure, Result.andThen_ok, invoke, Array.empty_append]
                congr 2
                apply Array.ext'; simp
              · unfold isLast
                rw [Bool.eq_false_iff.2 hnp, hc]
                simp [isDs, isCallV, hxf]
            · cases hev
          · cases hev
        · split at hev
          · rename_i f ids hf
            split at hev
            · rename_i S args hS hargs
              have hs := hT f S hS
              obtain ⟨bs, hfv, hcap⟩ := fnOf_rel he hf
              have hx := (argVals_rel he hargs).vals.append (ptrs_rel hcap)
              rw [callF_eq] at hev
              have hcall := callS_sound hi hs hx hev
              have hrun : (execOp a.eval o).run P w = .ok (.enter f (c.args.map a.eval ++ bs)) w := by
                simp only [execOp, hc, resolve, hxf, hfv, Deferred.ofValue, Sem.run_bind, Sem.run_pure, Result.andThen_ok, invoke, Array.empty_append, hs.enter]
              have hargs' : (c.args.toList.map a.eval ++ bs.toList).toArray = c.args.map a.eval ++ bs := by
                apply Array.ext'; simp
              rw [hargs'] at hcall
              refine .inr (.inl ⟨_, _, hrun, hcall.mono ?_⟩)
              rintro e w' ⟨rs, h', hK, v, t, rfl, hrv, hi', hext⟩
              refine ⟨v, rfl, _, _, _, hK, hi', pre_append m t, .inr (retAV_rel hrv), fun hd => hext ?_⟩
              unfold isLast at hd
              rw [Bool.eq_false_iff.2 hnp, hc] at hd
              simp only [isCallV, hxf, Bool.and_true, Bool.not_false, Bool.true_and, Bool.or_eq_false_iff] at hd
              simpa using hd.2
            · cases hev
          · exact .inl (eff hev)
      · exact .inl (eff hev)
    · exact .inl (eff hev)
theorem evOp_noDefer {dr : Bool} {K : AV → Heap → Option Res} (hev : evOp P T X dr o env h K = some r) : ∀ c, o.op ≠ .defer c := by
  intro c hc
  simp [evOp, hc, isPureOp, evEff] at hev
theorem evOp_wp (hX : X.y = none) (hT : SoundT P T) (hi : Inv G m h w) (he : ERel G m env a) {dr : Bool} {K : AV → Heap → Option Res} (hev : evOp P T X dr o env h K = some r)
    {next : Act → World → Prop} {Q : Exit → Act → World → Prop} (hn : ∀ v w', Behind P G m w dr o K r v w' → next (a.put o.dst v) w') : o.wp P a w next Q := by
  unfold Oper.wp
  rcases evOp_run hT hi he hev with ⟨n, v, w', h1, h2, h3⟩ | ⟨f, args, h1, h2⟩ | ⟨y, _, _, _, hy, _⟩
  · rw [h1]
    rcases h2 with rfl | ⟨rfl, rfl⟩
    · rw [Oper.upon_value]; exact hn v w' h3
    · rw [Oper.upon_skip]; exact hn _ w' h3
  · rw [h1, Oper.upon_enter]
    refine h2.mono ?_
    rintro e w' ⟨v, rfl, h3⟩
    exact hn v w' h3
  · rw [hX] at hy; cases hy
def FR (ro : Option Nat) : Fence := { Fence.wide with round := ro }
def YOK (P : Program) (G : Ctx) (m0 : GM) (n0 : Nat) (X : Xtra) : Prop := ∀ y, X.y = some y → ∀ {m : GM} {h : Heap} {w : World} {args : List TV} {xs : List Value} {l : Nat} {Kc : Bool → Heap → Option Res} {r : Res},
  n0 ≤ m.length → (∀ i, i < n0 → m[i]? = m0[i]?) → Inv G m h w → TVs m args xs → LRel m (.yld y.id) (.func (.yield l) #[] #[]) → y.run args h Kc = some r → ∀ n, ∃ fn tmps assign body,
    (Instr.yield l xs.toArray).run P w = .ok (.round l fn tmps assign body) w ∧ RoundIn Fence.wide n P l fn tmps assign body w fun e w' => ∃ b h' m', e = .returned (.bool b) ∧ Kc b h' = some r ∧ Inv G m' h' w' ∧ Pre m m'
theorem evOp_wpIn {ro : Option Nat} {n n0 : Nat} {m0 : GM} (hT : SoundT P T) (hY : YOK P G m0 n0 X) (hro : X.y.isSome = true → ro = none) (hn0 : n0 ≤ m.length) (hpin : ∀ i, i < n0 → m[i]? = m0[i]?) (hi : Inv G m h w) (he : ERel G m env a)
    {K : AV → Heap → Option Res} (hev : evOp P T X false o env h K = some r)
    {next : Act → World → Prop} {Q : Exit → Act → World → Prop} (hn : ∀ v w', (∃ av h' m', K av h' = some r ∧ Inv G m' h' w' ∧ Pre m m' ∧ (isTop av ∨ AVRel m' av v)) → next (a.put o.dst v) w') : o.wpIn (FR ro) n P a w next Q := by
  refine ⟨fun _ _ => trivial, ?_⟩
  rw [Oper.semAt_eq _ _ _ (evOp_noDefer hev)]
  rcases evOp_run hT hi he hev with ⟨k, v, w', h1, h2, h3⟩ | ⟨f, args, h1, h2⟩ | ⟨y, l, args, xs, hy, h1, h2, h3, _, h4⟩
  · rw [h1]
    obtain ⟨av, h', m', q1, q2, q3, q4, _⟩ := h3
    rcases h2 with rfl | ⟨rfl, rfl⟩
    · rw [Oper.uponIn_value]; exact hn v w' ⟨av, h', m', q1, q2, q3, q4⟩
    · rw [Oper.uponIn_skip]; exact hn _ w' ⟨av, h', m', q1, q2, q3, q4⟩
  · rw [h1, Oper.uponIn_enter]
    refine ⟨fun h0 => (by cases h0), ?_⟩
    have h5 : CallsIn Fence.wide (n - 1) P f args w _ := callsIn_wide.2 h2
    have h6 : CallsIn (FR ro) (n - 1) P f args w _ := h5
    refine h6.mono ?_
    rintro e w' ⟨v, rfl, av, h', m', q1, q2, q3, q4, _⟩
    exact hn v w' ⟨av, h', m', q1, q2, q3, q4⟩
  · have hr0 := hro (by rw [hy]; rfl)
    subst hr0
    obtain ⟨fn, tmps, as, body, q1, q2⟩ := hY y hy hn0 hpin hi h2 h3 h4 (n - 1)
    rw [h1, q1, Oper.uponIn_round]
    refine ⟨fun h0 => (by cases h0), ?_⟩
    have q3 : RoundIn (FR none) (n - 1) P l fn tmps as body w _ := q2
    refine q3.mono ?_
    rintro e w' ⟨b, h', m', rfl, p1, p2, p3⟩
    exact hn _ w' ⟨_, h', m', p1, p2, p3, .inr rfl⟩
theorem tmp_bool (he : ERel G m env a) {s : Nat} {b : Bool} (hs : eget env s = .tv (.lf (.bool b))) : a.tmps[s]? = some (.bool b) := by
  have := he.val s
  rw [hs] at this
  rcases this with h0 | h0
  · exact h0.elim
  · have h1 : a.tmps.getD s undef = .bool b := h0
    simp only [Array.getD_eq_getD_getElem?] at h1
    cases hq : a.tmps[s]? with
    | none => rw [hq] at h1; cases h1
    | some v => rw [hq] at h1; simp only [Option.getD_some] at h1; rw [h1]
theorem tmp_und (he : ERel G m env a) {s : Nat} (hs : eget env s = .tup []) : (match a.tmps[s]? with | some (.bool b) => some b | _ => none) = none := by
  have := he.val s
  rw [hs] at this
  rcases this with h0 | h0
  · exact h0.elim
  · obtain ⟨vs, h1, h2⟩ := h0
    simp only [Array.getD_eq_getD_getElem?] at h1
    cases hq : a.tmps[s]? with
    | none => rfl
    | some v => rw [hq] at h1; simp only [Option.getD_some] at h1; rw [h1]
theorem ERel.lit (he : ERel G m env a) {s : Nat} {b : Bool} (hs : eget env s = .tv (.lf (.bool b))) : ERel G m (eset env s (.tv (.lf (.bool b)))) a := by
  refine ⟨by rw [eset_length]; exact he.len, he.dfr, fun i => ?_⟩
  by_cases hi : s = i
  · subst hi
    have := he.val s
    rw [hs] at this
    by_cases hl : s < env.length
    · rw [eget_eset_same hl]; exact this
    · rw [eget_out (by rw [eset_length]; exact Nat.le_of_not_lt hl)]; exact .inl trivial
  · rw [eget_eset_ne hi]; exact he.val i
def Behind2 (P : Program) (G : Ctx) (m : GM) (w : World) (dr : Bool) (o : Oper) (K : Env → Heap → Option Res) (r : Res) (a' : Act) (w' : World) : Prop :=
  ∃ env' h' m', K env' h' = some r ∧ Inv G m' h' w' ∧ Pre m m' ∧ ERel G m' env' a' ∧ (isLast P (!dr) o = false → Ext w w')
theorem evStep_split (he : ERel G m env a) {dr : Bool} {ops : Array Oper} {K : Env → Heap → Option Res} (hev : evStep P T X dr ops.toList o env h K = some r) :
    (Region.wanted o (yielded ops a.tmps) = true ∧ ∃ env1, ERel G m env1 a ∧ evOp P T X dr o env1 h (fun v h' => K (dstSet env1 o.dst v) h') = some r) ∨
    (Region.wanted o (yielded ops a.tmps) = false ∧ ∃ env1, ERel G m env1 a ∧ K (dstSet env1 o.dst (.tup [])) h = some r) := by
  unfold evStep at hev
  simp only [dstF_eq, esetF_eq] at hev
  split at hev
  · rename_i hg
    exact .inl ⟨by simp [Region.wanted, hg], _, he, hev⟩
  · rename_i j want hg
    split at hev
    · rename_i oj hoj
      split at hev
      · rename_i s hs
        split at hev
        · rename_i b hb
          have hoj' : ops[j]? = some oj := by simpa using hoj
          have hy : yielded ops a.tmps j = some b := by
            simp only [yielded, hoj', Option.bind_some, hs, tmp_bool he hb]
          have hwant : Region.wanted o (yielded ops a.tmps) = (b == want) := by
            simp only [Region.wanted, hg, hy]
            cases b <;> cases want <;> rfl
          cases b with
          | true =>
            simp only [cond_true] at hev
            cases want with
            | true => simp only [if_true] at hev; exact .inl ⟨hwant, _, he.lit hb, hev⟩
            | false => simp only [Bool.false_eq_true, if_false] at hev; exact .inr ⟨hwant, _, he.lit hb, hev⟩
          | false =>
            simp only [cond_false] at hev
            cases want with
            | true => simp only [if_true] at hev; exact .inr ⟨hwant, _, he.lit hb, hev⟩
            | false => simp only [Bool.false_eq_true, if_false] at hev; exact .inl ⟨hwant, _, he.lit hb, hev⟩
        · rename_i hb
          have hoj' : ops[j]? = some oj := by simpa using hoj
          have hy : yielded ops a.tmps j = none := by
            simp only [yielded, hoj', Option.bind_some, hs]
            exact tmp_und he hb
          have hwant : Region.wanted o (yielded ops a.tmps) = false := by
            simp only [Region.wanted, hg, hy]
            cases want <;> rfl
          exact .inr ⟨hwant, _, he, hev⟩
        · cases hev
      · cases hev
    · cases hev
theorem evStep_wp (hX : X.y = none) (hT : SoundT P T) (hi : Inv G m h w) (he : ERel G m env a) {dr : Bool} {ops : Array Oper} {K : Env → Heap → Option Res} (hev : evStep P T X dr ops.toList o env h K = some r)
    {next : Act → World → Prop} {Q : Exit → Act → World → Prop} (hn : ∀ a' w', Behind2 P G m w dr o K r a' w' → next a' w') :
    if Region.wanted o (yielded ops a.tmps) then o.wp P a w next Q else next (a.put o.dst undef) w := by
  rcases evStep_split he hev with ⟨hw, env1, he1, hev1⟩ | ⟨hw, env1, he1, hev1⟩
  · rw [if_pos hw]
    refine evOp_wp hX hT hi he1 hev1 fun v w' ⟨av, h', m', h1, h2, h3, h4, h5⟩ => hn _ _ ⟨_, h', m', h1, h2, h3, (he1.mono h3).put h4, h5⟩
  · rw [if_neg (by rw [hw]; simp)]
    exact hn _ _ ⟨_, h, m, hev1, hi, Pre.refl m, he1.put (.inr ⟨#[], rfl, trivial⟩), fun _ => Ext.refl w⟩
theorem evOps_wpIn {ro : Option Nat} {n n0 : Nat} {m0 : GM} (hT : SoundT P T) (hY : YOK P G m0 n0 X) (hro : X.y.isSome = true → ro = none) {ops : Array Oper} {Q : Exit → Act → World → Prop} :
    ∀ (l : List Oper) {m : GM} {h : Heap} {w : World} {a : Act} {env : Env} {K : Env → Heap → Option Res}, n0 ≤ m.length → (∀ i, i < n0 → m[i]? = m0[i]?) → Inv G m h w → ERel G m env a → evOps P T X ops.toList l env h K = some r →
      (∀ env' h' m' a' w', K env' h' = some r → Inv G m' h' w' → Pre m m' → ERel G m' env' a' → Q .normal a' w') → wpListIn (FR ro) n P ops Q l a w
  | [], m, h, w, a, env, K, hn0, hpin, hi, he, hev, hq => hq env h m a w hev hi (Pre.refl m) he
  | o :: l, m, h, w, a, env, K, hn0, hpin, hi, he, hev, hq => by
    simp only [evOps] at hev
    have pin : ∀ {m' : GM}, Pre m m' → n0 ≤ m'.length ∧ ∀ i, i < n0 → m'[i]? = m0[i]? := by
      intro m' hp
      have hg : ∀ i, i < n0 → m'[i]? = m[i]? := fun i hi => by
        have hm : m[i]? = some (m[i]'(by omega)) := List.getElem?_eq_getElem _
        rw [hm]; exact hp i _ hm
      refine ⟨?_, fun i hi => (hg i hi).trans (hpin i hi)⟩
      cases n0 with
      | zero => omega
      | succ k =>
        have h1 := hg k (by omega)
        rcases Nat.lt_or_ge k m'.length with h2 | h2
        · exact h2
        · rw [List.getElem?_eq_none h2, List.getElem?_eq_getElem (by omega)] at h1; cases h1
    simp only [wpListIn]
    rcases evStep_split he hev with ⟨hw, env1, he1, hev1⟩ | ⟨hw, env1, he1, hev1⟩
    · rw [if_pos hw]
      refine evOp_wpIn hT hY hro hn0 hpin hi he1 hev1 fun v w' ⟨av, h', m', h1, h2, h3, h4⟩ => ?_
      exact evOps_wpIn hT hY hro l (pin h3).1 (pin h3).2 h2 ((he1.mono h3).put h4) h1 fun env2 h2' m2 a2 w2 q1 q2 q3 q4 => hq env2 h2' m2 a2 w2 q1 q2 (h3.trans q3) q4
    · rw [if_neg (by rw [hw]; simp)]
      refine ⟨fun _ _ => trivial, ?_⟩
      exact evOps_wpIn hT hY hro l hn0 hpin hi (he1.put (x := .tup []) (v := undef) (.inr ⟨#[], rfl, trivial⟩)) hev1 hq
def wpAnyE (P : Program) (wr : Bool) (ops : Array Oper) (Q : Exit → Act → World → Prop) : Nat → Array Bool → Act → World → Prop
  | 0, listed, a, w => Region.ready .any ops listed = [] ∧ Q .normal a w
  | fuel + 1, listed, a, w =>
    (Region.ready .any ops listed = [] → Q .normal a w) ∧
    ∀ i ∈ Region.ready .any ops listed, wpOp P ops Q i (fun a' w' => ((∀ o, ops[i]? = some o → isLast P wr o = false) → Ext w w') ∧ wpAnyE P wr ops Q fuel (listed.setIfInBounds i true) a' w') a w
theorem wpAny_of_E {wr : Bool} {ops : Array Oper} {Q : Exit → Act → World → Prop} : ∀ (fuel : Nat) (listed : Array Bool) (a : Act) (w : World), wpAnyE P wr ops Q fuel listed a w → wpAny P .any ops Q fuel listed a w
  | 0, _, _, _, h => h
  | fuel + 1, _, _, _, h => ⟨h.1, fun i hi => wpOp_mono (fun a' w' h' => wpAny_of_E fuel _ a' w' h'.2) (h.2 i hi)⟩
def Closed (ops : Array Oper) (listed : Array Bool) : Prop :=
  ∀ j oj, ops[j]? = some oj → listed.getD j false = true → ∀ e ∈ oj.after, Region.binds .any e = true → listed.getD e.on false = true
theorem Closed.set {ops : Array Oper} {listed : Array Bool} {i : Nat} (h : Closed ops listed) (hi : i ∈ Region.ready .any ops listed) : Closed ops (listed.setIfInBounds i true) := by
  obtain ⟨_, oi, hoi, hall⟩ := mem_ready.1 hi
  intro j oj hj hl e he hb
  by_cases hij : i = j
  · subst hij
    have : oj = oi := Option.some.inj (hj.symm.trans hoi)
    subst this
    exact getD_set_true (hall e he hb)
  · rw [getD_set_ne false hij] at hl
    exact getD_set_true (h j oj hj hl e he hb)
theorem waits_listed {ops : Array Oper} {listed : Array Bool} {i : Nat} (hc : Closed ops listed) : ∀ (fuel d : Nat), waitsB ops i fuel d = true → listed.getD d false = true → listed.getD i false = true
  | 0, _, h, _ => by simp [waitsB] at h
  | fuel + 1, d, h, hl => by
    unfold waitsB at h
    cases ho : ops[d]? with
    | none => rw [ho] at h; simp at h
    | some o =>
      rw [ho] at h
      obtain ⟨e, he, h1⟩ := Array.any_eq_true'.1 h
      simp only [Bool.and_eq_true, Bool.or_eq_true, beq_iff_eq] at h1
      have hle := hc d o ho hl e he h1.1
      rcases h1.2 with h2 | h2
      · rw [← h2]; exact hle
      · exact waits_listed hc fuel e.on h2 hle
theorem not_listed {listed : Array Bool} {i : Nat} (h1 : listed.getD i true = false) (h2 : listed.getD i false = true) : False := by
  rcases Nat.lt_or_ge i listed.size with h' | h'
  · simp [h'] at h1 h2
    rw [h1] at h2; cases h2
  · simp [Array.getElem?_eq_none h'] at h1
theorem waits_not_ready {ops : Array Oper} {listed : Array Bool} {i d fuel : Nat} (hc : Closed ops listed) (hr : waitsB ops i fuel d = true) (hun : listed.getD i true = false) : d ∉ Region.ready .any ops listed := by
  intro hd
  obtain ⟨_, o, ho, hall⟩ := mem_ready.1 hd
  refine not_listed hun ?_
  cases fuel with
  | zero => simp [waitsB] at hr
  | succ n =>
    unfold waitsB at hr
    rw [ho] at hr
    obtain ⟨e, he, h1⟩ := Array.any_eq_true'.1 hr
    simp only [Bool.and_eq_true, Bool.or_eq_true, beq_iff_eq] at h1
    have hle := hall e he h1.1
    rcases h1.2 with h2 | h2
    · rw [← h2]; exact hle
    · exact waits_listed hc n e.on h2 hle
theorem wpAnyE_first {wr : Bool} {ops : Array Oper} {Q : Exit → Act → World → Prop} {i : Nat} {oi : Oper} {v : Value} {wi : World} (hi : ops[i]? = some oi) (hsel : ∀ (j : Nat) (o : Oper) cs b, ops[j]? = some o → o.op ≠ .select cs b)
    (hQ : ∀ c a w, Q (.panic c) (a.put oi.dst v) w → Q (.panic c) a w) (n : Nat) :
    ∀ (fuel : Nat) (listed : Array Bool) (a : Act) (w : World),
      (∀ j oj, ops[j]? = some oj → j ≠ i → listed.getD j true = false → (∀ e ∈ oj.after, Region.binds .any e = true → e.on ≠ i) → oi.apart ops oj = true) →
      Closed ops listed → (∀ d od, ops[d]? = some od → d ≠ i → isLast P wr od = true → listed.getD d true = false → waitsB ops i n d = true) →
      i ∈ Region.ready .any ops listed → YieldsIf P ops (Ext wi) oi v a → Ext wi w →
      wpAnyE P wr ops Q fuel (listed.setIfInBounds i true) (a.put oi.dst v) w → wpAnyE P wr ops Q (fuel + 1) listed a w := by
  intro fuel
  induction fuel with
  | zero =>
    intro listed a w _ _ _ hr hy hS H
    refine ⟨fun h => (by rw [h] at hr; cases hr), fun j hj => ?_⟩
    by_cases hji : j = i
    · subst hji; exact hy.wpOp hi hS ⟨fun _ => Ext.refl w, H⟩
    · have := ready_mono hj hji
      rw [H.1] at this
      cases this
  | succ fuel ih =>
    intro listed a w hfree hc hd hr hy hS H
    refine ⟨fun h => (by rw [h] at hr; cases hr), fun j hj => ?_⟩
    by_cases hji : j = i
    · subst hji; exact hy.wpOp hi hS ⟨fun _ => Ext.refl w, H⟩
    · have h1 := H.2 j (ready_mono hj hji)
      obtain ⟨hjun, oj, hoj, hall⟩ := mem_ready.1 hj
      have hiun := (mem_ready.1 hr).1
      have hnot : ∀ e ∈ oj.after, Region.binds .any e = true → e.on ≠ i := fun e he hb heq => by
        have h1 := hall e he hb
        rw [heq] at h1
        exact not_listed hiun h1
      have hjd : isLast P wr oj = false := by
        cases hq : isLast P wr oj with
        | false => rfl
        | true => exact absurd hj (waits_not_ready hc (hd j oj hoj hji hq hjun) hiun)
      have h2 := wpOp_putIf hoj (hfree j oj hoj hji hjun hnot) (fun cs b => hsel i oi cs b hi) (fun cs b => hsel j oj cs b hoj) hQ hy h1
      have hfree' : ∀ k ok, ops[k]? = some ok → k ≠ i → (listed.setIfInBounds j true).getD k true = false →
          (∀ e ∈ ok.after, Region.binds .any e = true → e.on ≠ i) → oi.apart ops ok = true := fun k ok hk hki hun hno => by
        refine hfree k ok hk hki ?_ hno
        by_cases hjk : j = k
        · subst hjk; exact hjun
        · rw [getD_set_ne true hjk] at hun; exact hun
      have hd' : ∀ d od, ops[d]? = some od → d ≠ i → isLast P wr od = true → (listed.setIfInBounds j true).getD d true = false → waitsB ops i n d = true := fun d od hod hne hl hun => by
        refine hd d od hod hne hl ?_
        by_cases hjk : j = d
        · subst hjk; exact hjun
        · rw [getD_set_ne true hjk] at hun; exact hun
      refine wpOp_mono (fun a' w' h3 => ⟨h3.2.1, ih (listed.setIfInBounds j true) a' w' hfree' (hc.set hj) hd' (ready_mono hr (Ne.symm hji)) h3.1 (hS.trans (h3.2.1 fun o ho => ?_)) ?_⟩) h2
      · rw [Array.setIfInBounds_comm _ _ hji]
        exact h3.2.2
      · rw [hoj] at ho; cases ho; exact hjd
theorem wpAnyE_first0 {wr : Bool} {ops : Array Oper} {Q : Exit → Act → World → Prop} {i : Nat} {oi : Oper} {v : Value} (hi : ops[i]? = some oi) (hsel : ∀ (j : Nat) (o : Oper) cs b, ops[j]? = some o → o.op ≠ .select cs b)
    (hQ : ∀ c a w, Q (.panic c) (a.put oi.dst v) w → Q (.panic c) a w) :
    ∀ (fuel : Nat) (listed : Array Bool) (a : Act) (w : World),
      (∀ j oj, ops[j]? = some oj → j ≠ i → listed.getD j true = false → (∀ e ∈ oj.after, Region.binds .any e = true → e.on ≠ i) → oi.apart ops oj = true) →
      i ∈ Region.ready .any ops listed → YieldsIf P ops (fun _ => True) oi v a →
      wpAnyE P wr ops Q fuel (listed.setIfInBounds i true) (a.put oi.dst v) w → wpAnyE P wr ops Q (fuel + 1) listed a w := by
  intro fuel
  induction fuel with
  | zero =>
    intro listed a w _ hr hy H
    refine ⟨fun h => (by rw [h] at hr; cases hr), fun j hj => ?_⟩
    by_cases hji : j = i
    · subst hji; exact hy.wpOp hi trivial ⟨fun _ => Ext.refl w, H⟩
    · have := ready_mono hj hji
      rw [H.1] at this
      cases this
  | succ fuel ih =>
    intro listed a w hfree hr hy H
    refine ⟨fun h => (by rw [h] at hr; cases hr), fun j hj => ?_⟩
    by_cases hji : j = i
    · subst hji; exact hy.wpOp hi trivial ⟨fun _ => Ext.refl w, H⟩
    · have h1 := H.2 j (ready_mono hj hji)
      obtain ⟨hjun, oj, hoj, hall⟩ := mem_ready.1 hj
      have hiun := (mem_ready.1 hr).1
      have hnot : ∀ e ∈ oj.after, Region.binds .any e = true → e.on ≠ i := fun e he hb heq => by
        have h1 := hall e he hb
        rw [heq] at h1
        exact not_listed hiun h1
      have h2 := wpOp_putIf hoj (hfree j oj hoj hji hjun hnot) (fun cs b => hsel i oi cs b hi) (fun cs b => hsel j oj cs b hoj) hQ hy h1
      have hfree' : ∀ k ok, ops[k]? = some ok → k ≠ i → (listed.setIfInBounds j true).getD k true = false →
          (∀ e ∈ ok.after, Region.binds .any e = true → e.on ≠ i) → oi.apart ops ok = true := fun k ok hk hki hun hno => by
        refine hfree k ok hk hki ?_ hno
        by_cases hjk : j = k
        · subst hjk; exact hjun
        · rw [getD_set_ne true hjk] at hun; exact hun
      refine wpOp_mono (fun a' w' h3 => ⟨h3.2.1, ih (listed.setIfInBounds j true) a' w' hfree' (ready_mono hr (Ne.symm hji)) h3.1 ?_⟩) h2
      rw [Array.setIfInBounds_comm _ _ hji]
      exact h3.2.2
end
end
section
variable [FZ]
variable {P : Program}
section
variable {G : Ctx} {m : GM} {h : Heap} {w w' : World} {a : Act} {env : Env} {o : Oper} {r : Res} {T : FuncId → Option Summ} {X : Xtra}
theorem evStep_pure (hi : Inv G m h w) (he : ERel G m env a) {dr : Bool} {ops : Array Oper} {K : Env → Heap → Option Res} (hp : isPureOp P o.op = true) (hev : evStep P T X dr ops.toList o env h K = some r) :
    ∃ v env', YieldsIf P ops (fun w' => isFree P o.op = true ∨ Ext w w') o v a ∧ K env' h = some r ∧ ERel G m env' (a.put o.dst v) := by
  rcases evStep_split he hev with ⟨hw, env1, he1, hev1⟩ | ⟨hw, env1, he1, hev1⟩
  · unfold evOp at hev1
    rw [if_pos hp] at hev1
    obtain ⟨av, v, h1, h2, h3⟩ := evPure_sound hi he1 hev1
    exact ⟨v, _, .inl ⟨hw, h3⟩, h1, he1.put (.inr h2)⟩
  · exact ⟨undef, _, .inr ⟨hw, rfl⟩, hev1, he1.put (x := .tup []) (v := undef) (.inr ⟨#[], rfl, trivial⟩)⟩
theorem lastB_spec {wr : Bool} {ops : Array Oper} {listed : Array Bool} {i : Nat} (h : lastB P wr ops listed i = true) (d : Nat) (od : Oper) (hod : ops[d]? = some od) (hne : d ≠ i) (hl : isLast P wr od = true)
    (hun : listed.getD d true = false) : waitsB ops i ops.size d = true := by
  have hd : d < ops.size := by
    rcases Nat.lt_or_ge d ops.size with h' | h'
    · exact h'
    · rw [Array.getElem?_eq_none h'] at hod; cases hod
  unfold lastB at h
  have := List.all_eq_true.1 h d (List.mem_range.2 hd)
  simp only [hod] at this
  rw [hl, hun] at this
  simpa [hne] using this
theorem wpOp_of {ops : Array Oper} {Q : Exit → Act → World → Prop} {i : Nat} {oi : Oper} {next : Act → World → Prop} (hoi : ops[i]? = some oi)
    (hs : if Region.wanted oi (yielded ops a.tmps) then oi.wp P a w next Q else next (a.put oi.dst undef) w) : wpOp P ops Q i next a w := by
  unfold wpOp
  simp only [hoi]
  split
  · rename_i hw; rw [if_pos hw] at hs; exact .inl hs
  · rename_i hw; rw [if_neg hw] at hs; exact hs
theorem yieldsIf_weak {ops : Array Oper} {S S' : World → Prop} {v : Value} (h : YieldsIf P ops S o v a) (hs : ∀ w, S' w → S w) : YieldsIf P ops S' o v a := by
  rcases h with ⟨h1, h2⟩ | h
  · exact .inl ⟨h1, fun w hw => h2 w (hs w hw)⟩
  · exact .inr h
theorem altAll_mem {P : Program} {T : FuncId → Option Summ} {X : Xtra} {dr : Bool} {all : List Oper} {env : Env} {h : Heap} {K : Env → Heap → Option Res} {r : Res} : ∀ {l : List (Option PT)} {t : PT}, altAll l = some t →
    ∀ x ∈ l, ∃ u, x = some u ∧ (evPT P T X dr all t env h K = some r → evPT P T X dr all u env h K = some r)
  | [], t, h0, x, hx => by cases hx
  | [y], t, h0, x, hx => by
    simp only [altAll] at h0
    simp only [List.mem_singleton] at hx
    exact ⟨t, hx.trans h0, id⟩
  | y :: z :: l, t, h0, x, hx => by
    cases y with
    | none => simp only [altAll] at h0; cases h0
    | some a =>
      cases hb : altAll (z :: l) with
      | none => simp only [altAll, hb] at h0; cases h0
      | some b =>
        simp only [altAll, hb] at h0
        cases h0
        rcases List.mem_cons.1 hx with rfl | hx
        · exact ⟨a, rfl, fun h => (amb_some (by simpa only [evPT] using h)).1⟩
        · obtain ⟨u, h1, h2⟩ := altAll_mem (P := P) (T := T) (X := X) (dr := dr) (all := all) (env := env) (h := h) (K := K) (r := r) hb x hx
          exact ⟨u, h1, fun h => h2 (amb_some (by simpa only [evPT] using h)).2⟩
theorem planGo_sound (hX : X.y = none) (hT : SoundT P T) {dr : Bool} {ops : Array Oper} {Q : Act → World → Prop} {K : Env → Heap → Option Res} (hsel : Region.noSelect ops = true) :
    ∀ (fuel : Nat) (listed : Array Bool) (l : PT), planGo P (!dr) ops fuel listed = some l → Closed ops listed →
      ∀ {m : GM} {h : Heap} {w : World} {a : Act} {env : Env}, Inv G m h w → ERel G m env a → evPT P T X dr ops.toList l env h K = some r →
        (∀ env' h' m' a' w', K env' h' = some r → Inv G m' h' w' → Pre m m' → ERel G m' env' a' → Q a' w') → wpAnyE P (!dr) ops (fun e a w => e = .normal ∧ Q a w) fuel listed a w := by
  intro fuel
  induction fuel with
  | zero =>
    intro listed l hp hc m h w a env hi he hev hq
    simp only [planGo] at hp
    split at hp
    · rename_i hr
      cases hp
      exact ⟨by simpa using hr, rfl, hq _ _ _ _ _ hev hi (Pre.refl _) he⟩
    · cases hp
  | succ f ih =>
    intro listed l hp hc m h w a env hi he hev hq
    simp only [planGo] at hp
    split at hp
    · rename_i i hfind
      have hir : i ∈ Region.ready .any ops listed := List.mem_of_find?_eq_some hfind
      have htk := List.find?_some hfind
      obtain ⟨_, oi, hoi, _⟩ := mem_ready.1 hir
      split at hp
      · rename_i t ht
        cases hp
        unfold takeable at htk
        simp only [hoi, Bool.and_eq_true, Bool.or_eq_true] at htk
        simp only [evPT, show ops.toList[i]? = some oi by simpa using hoi] at hev
        rcases htk.2 with hmv | hlast
        · obtain ⟨v, env', hy, hev', he'⟩ := evStep_pure hi he htk.1.1 hev
          replace hy : YieldsIf P ops (fun _ => True) oi v a := yieldsIf_weak hy fun _ _ => .inl hmv
          have := ih _ _ ht (hc.set hir) hi he' hev' hq
          exact wpAnyE_first0 hoi (fun j o cs b ho => Region.noSelect_spec hsel j o cs b ho) (fun c a w hh => by cases hh.1) f listed _ _
            (fun j oj hj hji hun hno => Region.free_spec hoi htk.1.2 j oj hj hji hun hno) hir hy this
        · obtain ⟨v, env', hy, hev', he'⟩ := evStep_pure hi he htk.1.1 hev
          replace hy : YieldsIf P ops (Ext w) oi v a := yieldsIf_weak hy fun _ h0 => .inr h0
          have := ih _ _ ht (hc.set hir) hi he' hev' hq
          exact wpAnyE_first hoi (fun j o cs b ho => Region.noSelect_spec hsel j o cs b ho) (fun c a w hh => by cases hh.1) ops.size f listed _ _
            (fun j oj hj hji hun hno => Region.free_spec hoi htk.1.2 j oj hj hji hun hno) hc
            (fun d od hd hne hl hun => lastB_spec hlast d od hd hne hl hun) hir hy (Ext.refl _) this
      · cases hp
    · refine ⟨fun h0 => (by rw [h0] at hp; cases hp), fun j hj => ?_⟩
      obtain ⟨_, oi, hoi, _⟩ := mem_ready.1 hj
      obtain ⟨u, hu, hev'⟩ := altAll_mem (P := P) (T := T) (X := X) (dr := dr) (all := ops.toList) (env := env) (h := h) (K := K) (r := r) hp _ (List.mem_map.2 ⟨j, hj, rfl⟩)
      have hev := hev' hev
      split at hu
      · rename_i t ht
        cases hu
        simp only [evPT, show ops.toList[j]? = some oi by simpa using hoi] at hev
        have hs := evStep_wp hX hT hi he (ops := ops) (Q := fun e a w => e = .normal ∧ Q a w)
          (next := fun a' w' => ((∀ o, ops[j]? = some o → isLast P (!dr) o = false) → Ext w w') ∧ wpAnyE P (!dr) ops (fun e a w => e = .normal ∧ Q a w) f (listed.setIfInBounds j true) a' w') hev
          fun a' w' ⟨env', h', m', q1, q2, q3, q4, q5⟩ => ⟨fun ho => q5 (ho _ hoi), ih _ _ ht (hc.set hj) q2 q4 q1 fun env2 h2' m2 a2 w2 p1 p2 p3 p4 => hq _ _ _ _ _ p1 p2 (q3.trans p3) p4⟩
        exact wpOp_of hoi hs
      · cases hu
theorem closed_none {ops : Array Oper} : Closed ops (Array.replicate ops.size false) := by
  intro j oj hj hl
  simp only [Array.getD_eq_getD_getElem?, Array.getElem?_replicate] at hl
  split at hl <;> simp at hl
theorem region_drawn (hX : X.y = none) (hm : P.follows .mixedOrders = true) (hT : SoundT P T) {dr : Bool} {ops : Array Oper} {id : Nat} {Q : Exit → Act → World → Prop} {K : Env → Heap → Option Res} {l : PT} (hp : plan P (!dr) ops = some l)
    (hi : Inv G m h w) (he : ERel G m env a) (hev : evPT P T X dr ops.toList l env h K = some r)
    (hq : ∀ env' h' m' a' w', K env' h' = some r → Inv G m' h' w' → Pre m m' → ERel G m' env' a' → Q .normal a' w') : (Code.region id ops true).wp P Q a w := by
  unfold plan at hp
  split at hp
  · rename_i hsel
    have := planGo_sound hX hT (Q := Q .normal) (K := K) (r := r) (G := G) hsel _ _ _ hp closed_none (hi.ext (Ext.drew w)) he hev hq
    refine wp_mono (wp_region_any hm (wpAny_of_E _ _ _ _ this)) ?_
    rintro e a w ⟨rfl, hq'⟩
    exact hq'
  · cases hp
end
end
end Go.Proofs.Ytjhpadklfeipaaa.Ev
end