/- The evaluator is sound, ninth part: stores. -/
import Derived.Test.YtlokielmpdjedaaEvS8
namespace Go.Proofs.Ytlokielmpdjedaa.Ev
open Go
set_option linter.unusedVariables false

variable {P : Program}

def splice {α : Type} (l : List α) (a : Nat) (ns : List α) : List α := l.take a ++ (ns ++ l.drop (a + ns.length))

theorem splice_length {α : Type} {l : List α} {a : Nat} {ns : List α} (h : a + ns.length ≤ l.length) : (splice l a ns).length = l.length := by
  simp only [splice, List.length_append, List.length_take, List.length_drop]; omega

theorem splice_get {α : Type} {l : List α} {a : Nat} {ns : List α} (h : a + ns.length ≤ l.length) (j : Nat) :
    (splice l a ns)[j]? = if j < a then l[j]? else if j < a + ns.length then ns[j - a]? else l[j]? := by
  simp only [splice]
  have h1 : (l.take a).length = a := by rw [List.length_take]; omega
  by_cases c1 : j < a
  · rw [if_pos c1, List.getElem?_append_left (by omega), List.getElem?_take, if_pos c1]
  · rw [if_neg c1, List.getElem?_append_right (by omega), h1]
    by_cases c2 : j < a + ns.length
    · rw [if_pos c2, List.getElem?_append_left (by omega)]
    · rw [if_neg c2, List.getElem?_append_right (by omega), List.getElem?_drop]
      congr 1; omega

theorem shp_w (x y : LV) (h : shp x = shp y) : x.w = y.w := by
  have : ∀ z : LV, z.w = match shp z with | some (k, n) => n * k.w | none => 1 := fun z => by cases z <;> rfl
  rw [this x, this y, h]

theorem dropW_shp : ∀ {l l' : List LV}, shps l = shps l' → ∀ {n : Nat} {r : List LV}, dropW l n = some r → ∃ r', dropW l' n = some r' ∧ shps r = shps r' := by
  intro l
  induction l with
  | nil =>
    intro l' hs n r hd
    cases l' with
    | nil => exact ⟨r, hd, rfl⟩
    | cons y l' => simp [shps] at hs
  | cons x l ih =>
    intro l' hs n r hd
    cases l' with
    | nil => simp [shps] at hs
    | cons y l' =>
      simp only [shps, List.cons.injEq] at hs
      cases n with
      | zero =>
        simp only [dropW, Option.some.injEq] at hd
        subst hd
        exact ⟨_, rfl, by simp [shps, hs.1, hs.2]⟩
      | succ n =>
        simp only [dropW] at hd ⊢
        rw [shp_w x y hs.1] at hd
        split at hd
        · rename_i hc
          rw [if_pos hc]
          exact ih hs.2 hd
        · cases hd

theorem allPos_drop : ∀ {l : List LV}, allPos l = true → ∀ {n : Nat} {r : List LV}, dropW l n = some r → allPos r = true := by
  intro l
  induction l with
  | nil => intro h n r hd; cases n <;> simp [dropW] at hd; subst hd; rfl
  | cons x l ih =>
    intro h n r hd
    cases n with
    | zero => simp only [dropW, Option.some.injEq] at hd; subst hd; exact h
    | succ n =>
      simp only [dropW] at hd
      simp only [allPos] at h
      split at h
      · split at hd
        · exact ih h hd
        · cases hd
      · cases h

theorem seq_pos {k : EK} {n : Nat} {l : List k.den} {r : List LV} (h : allPos (.seq k n l :: r) = true) : 0 < n := by
  simp only [allPos] at h
  by_cases hp : 0 < (LV.seq k n l).w
  · exact Nat.pos_of_ne_zero fun e => by subst e; simp [LV.w] at hp
  · rw [if_neg hp] at h; cases h

/-- Contents turn, lengths and kinds don't. -/
theorem seqG_shape {m m' : GM} {g : Gh} {es es' : List LV} {cs cs' : List Value} (hs : shps es' = shps es) (hp : allPos es = true) (ho : OCells m es cs) (ho' : OCells m' es' cs') (hg : SeqG g es) : SeqG g es' := by
  intro off k n l r hd
  obtain ⟨r0, hd0, hr⟩ := dropW_shp hs hd
  cases r0 with
  | nil => simp [shps] at hr
  | cons y r0 =>
    simp only [shps, shp, List.cons.injEq] at hr
    cases y
    case seq k0 n0 l0 =>
      simp only [Option.some.injEq, Prod.mk.injEq] at hr
      obtain ⟨⟨rfl, rfl⟩, _⟩ := hr
      have hpos := seq_pos (allPos_drop hp hd0)
      obtain ⟨h1, h2⟩ := hg off _ _ _ _ hd0
      obtain ⟨_, q1⟩ := dropW_cells hd0 ho
      obtain ⟨_, _, _, ⟨e1, _⟩, _⟩ := q1
      obtain ⟨_, q2⟩ := dropW_cells hd ho'
      obtain ⟨_, _, _, ⟨e2, _⟩, _⟩ := q2
      exact ⟨by rw [e2.resolve_left (by omega), ← h1, e1.resolve_left (by omega)], h2⟩
    all_goals (exact absurd hr.1 (by simp))

def xsh : LV → Option (EK × Nat × Nat)
  | .seq k n l => some (k, n, l.length)
  | _ => none

theorem dropW_xsh : ∀ {l l' : List LV}, l.map xsh = l'.map xsh → ∀ {n : Nat} {r : List LV}, dropW l n = some r → ∃ r', dropW l' n = some r' ∧ r.map xsh = r'.map xsh := by
  intro l
  induction l with
  | nil =>
    intro l' hs n r hd
    cases l' with
    | nil => exact ⟨r, hd, rfl⟩
    | cons y l' => simp at hs
  | cons x l ih =>
    intro l' hs n r hd
    cases l' with
    | nil => simp at hs
    | cons y l' =>
      simp only [List.map_cons, List.cons.injEq] at hs
      cases n with
      | zero =>
        simp only [dropW, Option.some.injEq] at hd
        subst hd
        exact ⟨_, rfl, by simp [hs.1, hs.2]⟩
      | succ n =>
        have hw : x.w = y.w := by
          have : ∀ z : LV, z.w = match xsh z with | some (k, n, _) => n * k.w | none => 1 := fun z => by cases z <;> rfl
          rw [this x, this y, hs.1]
        simp only [dropW] at hd ⊢
        rw [hw] at hd
        split at hd
        · rename_i hc
          rw [if_pos hc]
          exact ih hs.2 hd
        · cases hd

theorem seqG_xsh {g : Gh} {es es' : List LV} (hs : es'.map xsh = es.map xsh) (hg : SeqG g es) : SeqG g es' := by
  intro off k n l r hd
  obtain ⟨r0, hd0, hr⟩ := dropW_xsh hs hd
  cases r0 with
  | nil => simp at hr
  | cons y r0 =>
    simp only [List.map_cons, List.cons.injEq] at hr
    cases y
    case seq k0 n0 l0 =>
      simp only [xsh, Option.some.injEq, Prod.mk.injEq] at hr
      obtain ⟨⟨rfl, rfl, hl⟩, _⟩ := hr
      obtain ⟨h1, h2⟩ := hg off _ _ _ _ hd0
      exact ⟨by rw [hl, h1], h2⟩
    all_goals (exact absurd hr.1 (by simp [xsh]))

theorem take_drop : ∀ {l p q : List LV} {n : Nat}, takeW l n = some p → dropW l n = some q → l = p ++ q := by
  intro l
  induction l with
  | nil => intro p q n h1 h2; cases n <;> simp [takeW, dropW] at h1 h2; subst h1 h2; rfl
  | cons x l ih =>
    intro p q n h1 h2
    cases n with
    | zero => simp only [takeW, dropW, Option.some.injEq] at h1 h2; subst h1 h2; rfl
    | succ n =>
      simp only [takeW, dropW] at h1 h2
      split at h1
      · rename_i hc
        rw [if_pos hc] at h2
        split at h1
        · rename_i l' hl'
          simp only [Option.some.injEq] at h1
          subst h1
          rw [ih hl' h2]
          rfl
        · cases h1
      · cases h1

theorem splice_nested {α : Type} {A L C X ns : List α} {i : Nat} {o2 : Nat} (h1 : i + X.length ≤ L.length) (h2 : o2 + ns.length ≤ X.length) (hX : ∀ j, j < X.length → X[j]? = L[i + j]?) :
    A ++ (splice L i (splice X o2 ns) ++ C) = splice (A ++ (L ++ C)) (A.length + (i + o2)) ns := by
  have hl : (splice X o2 ns).length = X.length := splice_length h2
  have hL : (splice L i (splice X o2 ns)).length = L.length := splice_length (by rw [hl]; exact h1)
  apply List.ext_getElem?
  intro j
  rw [splice_get (by simp; omega)]
  by_cases c1 : j < A.length
  · rw [List.getElem?_append_left c1, if_pos (by omega), List.getElem?_append_left c1]
  · rw [List.getElem?_append_right (by omega), List.getElem?_append_right (l₁ := A) (l₂ := L ++ C) (by omega)]
    by_cases c2 : j - A.length < L.length
    · rw [List.getElem?_append_left (by omega), List.getElem?_append_left (by omega), splice_get (by rw [hl]; exact h1), hl]
      by_cases c3 : j - A.length < i
      · rw [if_pos c3, if_pos (by omega)]
      · rw [if_neg c3]
        by_cases c4 : j - A.length < i + X.length
        · rw [if_pos c4, splice_get h2]
          by_cases c5 : j - A.length - i < o2
          · rw [if_pos c5, if_pos (show j < A.length + (i + o2) by omega), hX _ (by omega)]
            congr 1; omega
          · rw [if_neg c5, if_neg (show ¬ j < A.length + (i + o2) by omega)]
            by_cases c6 : j - A.length - i < o2 + ns.length
            · rw [if_pos c6, if_pos (show j < A.length + (i + o2) + ns.length by omega)]
              congr 1; omega
            · rw [if_neg c6, if_neg (show ¬ j < A.length + (i + o2) + ns.length by omega), hX _ (by omega)]
              congr 1; omega
        · rw [if_neg c4, if_neg (by omega), if_neg (by omega)]
    · rw [List.getElem?_append_right (by omega), List.getElem?_append_right (by omega), hL, if_neg (by omega), if_neg (by omega)]

section
variable {G : Ctx} {m : GM} {h : Heap} {w w' : World} {a : Act} {env : Env} {o : Oper} {K : AV → Heap → Option Res} {r : Res}

/-- A store of some cells into an object's block. -/
theorem store_cells (hi : Inv G m h w) {id : Nat} {es : List LV} {g : Gh} {b : Nat × Nat} (hid : hget h id = some ⟨false, es⟩) (hg : m[id]? = some g) (hb : g.addr = some b)
    {cs : List Value} (hoc : OCells m es cs) (hpl : Placed g w false cs) {p : Nat} {ns : List Value} (hle : p + ns.length ≤ cs.length) (hlf : ∀ v ∈ ns, leafV v) :
    ∃ w', (storeCells (at_ b p) ns).run P w = .ok () w' ∧ OnlyB w w' b.1 ∧ Placed g w' false (splice cs p ns) := by
  rcases hpl with ⟨rfl, h0⟩ | ⟨b', blk, t, fr, h1, h2, h3, h4, h5, h6⟩
  · rw [hb] at h0; cases h0
  · rw [hb] at h1
    cases h1
    obtain ⟨w', cur', q1, q2, q3, q4⟩ := run_storeCells_any (P := P) (g := b.1) (o := b.2 + p) (t := t) (fr := fr) ns 0 blk w h2 (by simp; omega) hlf (by rw [h3]; exact (h6 rfl).not)
    have hlen : cur'.size = blk.size := by
      have := congrArg List.length q4
      simp only [List.length_append, List.length_take, List.length_drop, Array.length_toList] at this
      omega
    refine ⟨w', q1, q2, .inr ⟨b, cur', t, fr, hb, q3, by rw [hlen]; exact h3, by rw [splice_length hle]; exact h4, fun j hj => ?_, h6⟩⟩
    rw [splice_length hle] at hj
    have e1 : cur'.toList = splice blk.toList (b.2 + p) ns := by rw [q4]; simp [splice]
    have e2 : cur'[b.2 + j]? = (splice blk.toList (b.2 + p) ns)[b.2 + j]? := by rw [← e1]; simp
    have e3 : b.2 + p + ns.length ≤ blk.toList.length := by simp; omega
    rw [e2, splice_get e3, splice_get hle]
    have e4 := h5 j hj
    by_cases c1 : j < p
    · rw [if_pos c1, if_pos (by omega)]; simpa using e4
    · rw [if_neg c1, if_neg (by omega)]
      by_cases c2 : j < p + ns.length
      · rw [if_pos c2, if_pos (by omega)]; congr 1; omega
      · rw [if_neg c2, if_neg (by omega)]; simpa using e4

theorem eff_store (hi : Inv G m h w) (he : ERel m env a) {t : TypeId} {x y : Operand} (ho : o.op = .store t x y) (hev : evEff P o env h K = some r) : EffOK P G m w a o K r := by
  simp only [evEff, ho] at hev
  have hds : isDs o.op = true := by rw [ho]; rfl
  have run : ∀ {b : Nat × Nat} {p : Nat} {w' : World} {v : TV}, a.eval x = .pointer (some (at_ b p)) → TVRel m v (a.eval y) → wOf v.ents = some (szOf P t) → 0 < szOf P t → (storeCells (at_ b p) (a.eval y).cells.toList).run P w = .ok () w' →
      (execOp a.eval o).run P w = .ok .skip w' := by
    intro b p w' v hx hy hw hpos hst
    obtain ⟨i, hin, hiz⟩ := szOf_info rfl hpos
    have hsz : (a.eval y).cells.size = i.size := by
      have := wOf_cells hw hy.ents
      rw [hiz]
      simpa using this
    simp only [execOp, ho, hx, Instr.storeAt, Instr.sureAddr, storeVar, Sem.run_bind, Sem.run_pure, Result.andThen_ok, run_size hin, hsz]
    simp [hst]
  split at hev
  · rename_i id off v hx hy
    have hy' : TVRel m v (a.eval y) := opd_rel he hy
    obtain ⟨g, b, hg, hb, hv⟩ : ∃ g b, m[id]? = some g ∧ g.addr = some b ∧ a.eval x = .pointer (some (at_ b off)) := opd_rel he hx
    split at hev
    · rename_i es hid
      split at hev
      · rename_i hw
        obtain ⟨hw, hpos'⟩ := hw
        split at hev
        · rename_i es' hput
          split at hev
          · rename_i hsh
            obtain ⟨hs1, hpos⟩ := hsh
            obtain ⟨hsg, cs, hoc, hpl⟩ := hi.obs id _ g hid hg
            obtain ⟨q1, q2⟩ := putW_cells hput hoc hy'.ents
            obtain ⟨w', r1, r2, r3⟩ := store_cells (P := P) hi hid hg hb hoc hpl q1 hy'.leaves
            refine ⟨_, _, hev, .skip, undef, w', m, run hv hy' hw hpos' r1, .inr ⟨rfl, rfl⟩, hi.put hid hg hb r2 ⟨seqG_shape hs1 hpos hoc q2 hsg, _, q2, r3⟩, Pre.refl m, .inl trivial, fun h0 => by rw [hds] at h0; cases h0⟩
          · cases hev
        · cases hev
      · cases hev
    · cases hev
  · rename_i id off i o2 v hx hy
    have hy' : TVRel m v (a.eval y) := opd_rel he hy
    obtain ⟨g, b, hg, hb, hv⟩ : ∃ g b, m[id]? = some g ∧ g.addr = some b ∧ a.eval x = .pointer (some (at_ b (off + i * g.ew off + o2))) := opd_rel he hx
    split at hev
    · rename_i es hid
      split at hev
      · rename_i hw
        obtain ⟨hw, hpos'⟩ := hw
        split at hev
        · rename_i pre k n l post htk hdr
          split at hev
          · rename_i es' hput
            split at hev
            · rename_i yv hof
              obtain ⟨hlt, hev⟩ := dec_of hev
              obtain ⟨hsg, cs, hoc, hpl⟩ := hi.obs id _ g hid hg
              obtain ⟨_, hew⟩ := hsg off k n l post hdr
              obtain ⟨t1, t2⟩ := takeW_cells htk hoc
              obtain ⟨_, c1, c2, hcs, ⟨hl, rfl⟩, hpost⟩ := dropW_cells hdr hoc
              obtain ⟨q1, q2⟩ := putW_cells hput (toLV_cells m k (l.getD i k.zero)) hy'.ents
              have hcv := of1_cells k hof q2
              rw [cv_length] at q1
              have hcl : cs.length = off + (l.length * k.w + c2.length) := by
                have := congrArg List.length hcs
                simp only [List.length_drop, List.length_append, cvs_length] at this
                omega
              have hil : (i + 1) * k.w ≤ l.length * k.w := Nat.mul_le_mul_right _ hlt
              rw [Nat.add_mul, Nat.one_mul] at hil
              have hle : off + i * g.ew off + o2 + (a.eval y).cells.toList.length ≤ cs.length := by rw [← hew]; omega
              obtain ⟨w', r1, r2, r3⟩ := store_cells (P := P) hi hid hg hb hoc hpl hle hy'.leaves
              have hcells : cs.take off ++ (cvs k (l.set i yv) ++ c2) = splice cs (off + i * g.ew off + o2) (a.eval y).cells.toList := by
                rw [cvs_set k l i yv hlt, ← hcv, ← hew]
                have := splice_nested (A := cs.take off) (L := cvs k l) (C := c2) (X := k.cv (l.getD i k.zero)) (ns := (a.eval y).cells.toList) (i := i * k.w) (o2 := o2)
                  (by rw [cv_length, cvs_length]; exact hil) (by rw [cv_length]; exact q1) (fun j hj => by rw [cv_length] at hj; rw [cvs_getD k l i hlt j hj])
                rw [← hcs, List.take_append_drop] at this
                have e1 : (cs.take off).length = off := by rw [List.length_take]; omega
                rw [e1, ← Nat.add_assoc] at this
                exact this
              have hes : es = pre ++ .seq k n l :: post := take_drop htk hdr
              refine ⟨_, _, hev, .skip, undef, w', m, run hv hy' hw hpos' r1, .inr ⟨rfl, rfl⟩, hi.put hid hg hb r2 ⟨seqG_xsh (es := es) (by rw [hes]; simp [xsh]) hsg, _, ?_, r3⟩, Pre.refl m, .inl trivial, fun h0 => by rw [hds] at h0; cases h0⟩
              rw [← hcells]
              exact ocells_append.2 ⟨_, _, rfl, t2, _, _, rfl, ⟨by rw [List.length_set]; exact hl, rfl⟩, hpost⟩
            · cases hev
          · cases hev
        · cases hev
      · cases hev
    · cases hev
  · cases hev

end
end Go.Proofs.Ytlokielmpdjedaa.Ev

