/- The evaluator is sound, thirteenth part: calls, the theorem. -/
import Derived.Test.YtlokielmpdjedaaEvS12
namespace Go.Proofs.Ytlokielmpdjedaa.Ev
open Go
set_option linter.unusedVariables false

variable {P : Program}

section
variable {G : Ctx} {m : GM} {h : Heap} {w w' : World}

theorem lend_nil : Lent m h w [] [] [] := ⟨rfl, fun j ob g hg => by simp [hget] at hg, fun j ob g b hg => by simp [hget] at hg⟩

theorem Lent.snoc {u : Heap} {t : GM} {ids : List Nat} (hl : Lent m h w u t ids) {g : Gh} {k : EK} {l : List k.den} (hsg : SeqG g [.seq k 0 l]) (hpl : Placed g w true (cvs k l)) {id : Nat} {ob : Ob} (hob : hget h id = some ob)
    (hfr : ∀ b, g.addr = some b → ∃ gi c, m[id]? = some gi ∧ gi.addr = some c ∧ c.1 = b.1) : Lent m h w (u ++ [some ⟨true, [.seq k 0 l]⟩]) (t ++ [g]) (ids ++ [id]) := by
  refine ⟨by simp [hl.len], fun j o gj hj hgj => ?_, fun j o gj b hj hgj hb => ?_⟩
  · rcases hget_app hj with ⟨hlt, hj⟩ | ⟨rfl, h0⟩
    · rw [List.getElem?_append_left (by rw [hl.len]; exact hlt)] at hgj
      obtain ⟨h1, h2, cs, h3, h4⟩ := hl.obs j o gj hj hgj
      refine ⟨h1, h2, cs, ?_, h4⟩
      rw [← List.append_assoc]
      exact h3.mono (pre_append _ _)
    · cases h0
      rw [← hl.len] at hgj
      simp at hgj
      subst hgj
      exact ⟨rfl, hsg, _, seq_cells _ k l, hpl⟩
  · rcases hget_app hj with ⟨hlt, hj⟩ | ⟨rfl, h0⟩
    · rw [List.getElem?_append_left (by rw [hl.len]; exact hlt)] at hgj
      obtain ⟨i, o', gi, c, h1, h2⟩ := hl.from_ j o gj b hj hgj hb
      exact ⟨i, o', gi, c, by simp [h1], h2⟩
    · cases h0
      rw [← hl.len] at hgj
      simp at hgj
      subst hgj
      obtain ⟨gi, c, h1, h2⟩ := hfr b hb
      exact ⟨id, ob, gi, c, by simp, hob, h1, h2⟩

theorem lendVs_rel (hi : Inv G m h w) : ∀ (vs : List TV) (xs : List Value) (u : Heap) (t : GM) (ids : List Nat), Lent m h w u t ids → TVs m vs xs →
    ∃ u' t' , (lendVs vs (h ++ u)).2.1 = h ++ u ++ u' ∧ Lent m h w (u ++ u') (t ++ t') (ids ++ (lendVs vs (h ++ u)).2.2) ∧ TVs (m ++ (t ++ t')) (lendVs vs (h ++ u)).1 xs
  | [], xs, u, t, ids, hl, hx => ⟨[], [], by simp [lendVs], by simpa [lendVs] using hl, by cases xs <;> exact hx⟩
  | v :: r, [], u, t, ids, hl, hx => hx.elim
  | v :: r, x :: xs, u, t, ids, hl, hx => by
    have other : (∀ id off lo len cap, v ≠ .lf (.slice id off lo len cap)) → lendVs (v :: r) (h ++ u) = (v :: (lendVs r (h ++ u)).1, (lendVs r (h ++ u)).2.1, (lendVs r (h ++ u)).2.2) := by
      intro hne
      cases v with
      | agg l => rfl
      | lf y =>
        cases y
        case slice => exact absurd rfl (hne _ _ _ _ _)
        all_goals rfl
    by_cases hs : ∃ id off lo len cap, v = .lf (.slice id off lo len cap)
    · obtain ⟨id, off, lo, len, cap, rfl⟩ := hs
      have hxl : LRel m (.slice id off lo len cap) x := hx.1
      have hidlt : id < h.length := by
        obtain ⟨g, _, _, hg, _⟩ := hxl
        rw [← hi.len]
        exact (List.getElem?_eq_some_iff.1 hg).1
      have hvis : vis (h ++ u) (.slice id off lo len cap) = vis h (.slice id off lo len cap) := by
        simp only [vis, hget_append_left hidlt]
      cases hv : vis h (.slice id off lo len cap) with
      | none =>
        obtain ⟨u', t', h1, h2, h3⟩ := lendVs_rel hi r xs u t ids hl hx.2
        refine ⟨u', t', ?_, ?_, ?_⟩
        · simp only [lendVs, hvis, hv]; exact h1
        · simp only [lendVs, hvis, hv]; exact h2
        · simp only [lendVs, hvis, hv]; exact ⟨hxl.leaf, h3⟩
      | some kl =>
        obtain ⟨k, l⟩ := kl
        obtain ⟨g, ob, hob, hsg, hpl, hfr, hfull⟩ := lend_one hi hxl hv
        have hl' := hl.snoc hsg hpl hob hfr
        obtain ⟨u', t', h1, h2, h3⟩ := lendVs_rel hi r xs _ _ _ hl' hx.2
        refine ⟨[some ⟨true, [.seq k 0 l]⟩] ++ u', [g] ++ t', ?_, ?_, ?_⟩
        · simp only [lendVs, hvis, hv]
          rw [← List.append_assoc] at h1
          rw [h1]; simp
        · simp only [lendVs, hvis, hv]
          rw [← List.append_assoc] at h1 h2
          simp only [List.append_assoc] at h2 ⊢
          exact h2
        · simp only [lendVs, hvis, hv]
          refine ⟨hfull _ _ ?_, ?_⟩
          · rw [List.length_append, ← hi.len, ← hl.len]
            simp
          · simp only [List.append_assoc] at h3 ⊢
            exact h3
    · have hne : ∀ id off lo len cap, v ≠ .lf (.slice id off lo len cap) := fun id off lo len cap e => hs ⟨id, off, lo, len, cap, e⟩
      obtain ⟨u', t', h1, h2, h3⟩ := lendVs_rel hi r xs u t ids hl hx.2
      rw [other hne]
      exact ⟨u', t', h1, h2, hx.1.mono (pre_append _ _), h3⟩

theorem allLt_get {n : Nat} : ∀ {l : List Nat}, allLtB n l = true → ∀ {j i : Nat}, l[j]? = some i → i < n
  | [], _, j, i, h => by simp at h
  | a :: r, ha, j, i, h => by
    simp only [allLtB] at ha
    split at ha
    · rename_i hlt
      cases j with
      | zero => simp at h; subst h; exact hlt
      | succ j => exact allLt_get ha (by simpa using h)
    · cases ha

theorem anyMem_false : ∀ {l s : List Nat}, anyMem l s = false → ∀ {a : Nat}, a ∈ l → a ∉ s
  | [], _, _, a, h => by cases h
  | b :: r, s, hf, a, h => by
    simp only [anyMem] at hf
    split at hf
    · cases hf
    · rename_i hb
      rcases List.mem_cons.1 h with rfl | h
      · intro hm; rw [← memN_iff] at hm; exact hb hm
      · exact anyMem_false hf h

theorem roAll_get : ∀ {h : Heap} {j : Nat} {ob : Ob}, hget (roAll h) j = some ob → ∃ o, hget h j = some o ∧ ob = ⟨true, o.es⟩
  | [], j, ob, hg => by simp [roAll, hget] at hg
  | some o :: r, 0, ob, hg => by simp only [roAll, hget, Option.some.injEq] at hg; exact ⟨o, rfl, hg.symm⟩
  | none :: r, 0, ob, hg => by simp [roAll, hget] at hg
  | some o :: r, j + 1, ob, hg => by simp only [roAll, hget] at hg; exact roAll_get (h := r) (j := j) hg
  | none :: r, j + 1, ob, hg => by simp only [roAll, hget] at hg; exact roAll_get (h := r) (j := j) hg

theorem roAll_length : ∀ (h : Heap), (roAll h).length = h.length
  | [] => rfl
  | some o :: r => by simp [roAll, roAll_length r]
  | none :: r => by simp [roAll, roAll_length r]

theorem back_ren {sel : List Nat} {t : GM} (hlt : ∀ {j i : Nat}, sel[j]? = some i → i < m.length) : RenOK (backIds sel m.length) (pickM m sel ++ t) (m ++ t) := by
  intro j i hj g hg
  simp only [backIds] at hj
  have hpl : (pickM m sel).length = sel.length := by simp [pickM]
  split at hj
  · rename_i i' hi'
    simp only [Option.some.injEq] at hj
    subst hj
    have hjl : j < sel.length := (List.getElem?_eq_some_iff.1 hi').1
    rw [List.getElem?_append_left (by omega)] at hg
    have := pickM_back hi' (hlt hi') hg
    rw [List.getElem?_append_left (hlt hi')]
    exact this
  · rename_i hn
    simp only [Option.some.injEq] at hj
    subst hj
    have hjl : sel.length ≤ j := List.getElem?_eq_none_iff.1 hn
    rw [List.getElem?_append_right (by omega), hpl] at hg
    rw [List.getElem?_append_right (by omega)]
    rw [show m.length + (j - sel.length) - m.length = j - sel.length by omega]
    exact hg

theorem ResRel.ren {f : Nat → Option Nat} {m m' : GM} (hf : RenOK f m m') {rs : List TV} {v : Value} (h : ResRel m rs v) : ResRel m' (renVs f rs) v := by
  match rs, h with
  | [], ⟨vs, e, h⟩ => exact ⟨vs, e, h.ren hf⟩
  | [x], h => exact TVRel.ren hf h
  | x :: y :: r, ⟨vs, e, h⟩ => exact ⟨vs, e, h.ren hf⟩

theorem pickH_at (f : Nat → Option Nat) : ∀ {sel : List Nat} {j i : Nat} {o : Ob}, sel[j]? = some i → hget h i = some o → hget (pickH h f sel) j = some ⟨o.ro, renLs f o.es⟩
  | [], j, i, o, h1, _ => by simp at h1
  | a :: sel, 0, i, o, h1, h2 => by
    simp only [List.getElem?_cons_zero, Option.some.injEq] at h1
    subst h1
    simp [pickH, hget, h2, renO]
  | a :: sel, j + 1, i, o, h1, h2 => by
    simp only [List.getElem?_cons_succ] at h1
    simp only [pickH, hget]
    exact pickH_at f h1 h2

theorem callS_sound (hi : Inv G m h w) {f : FuncId} {S : Summ} (hs : SoundFn P f S) {dr : Bool} {args : List TV} {cvs : List Value} (hx : TVs m args cvs) {K : List TV → Heap → Option Res} {r : Res}
    (hev : callS dr S args h K = some r) :
    Calls P f cvs.toArray w fun e w' => ∃ rs h', K rs h' = some r ∧ ∃ v t, e = .returned v ∧ ResRel (m ++ t) rs v ∧ Inv G (m ++ t) h' w' ∧ (dr = true → Ext w w') := by
  unfold callS at hev
  obtain ⟨t1, u1, e1, i1, x1⟩ := matVs_rel args hi
  obtain ⟨t2, i2, _⟩ := matH_rel (matVs args h).2.length 0 i1
  simp only at hev
  generalize hq1 : (matVs args h).1 = q1 at *
  generalize hq2 : (matVs args h).2 = q2 at *
  generalize hh1 : matH q2.length 0 q2 = h1 at *
  have x2 : TVs (m ++ t1 ++ t2) q1 cvs := (x1 cvs hx).mono (pre_append _ _)
  generalize hm1 : m ++ t1 ++ t2 = m1 at *
  obtain ⟨u3, t3, e3, l3, x3⟩ := lendVs_rel i2 q1 cvs [] [] [] lend_nil x2
  simp only [List.append_nil, List.nil_append] at e3 l3 x3
  generalize hp1 : (lendVs q1 h1).1 = p1 at *
  generalize hp2 : (lendVs q1 h1).2.1 = h2 at *
  generalize hp3 : (lendVs q1 h1).2.2 = ids at *
  generalize hsel : reach h2 fuelR (idsOfVs p1) [] = sel at *
  have len1 : m1.length = h1.length := i2.len
  have len2 : (m1 ++ t3).length = h2.length := by rw [e3]; simp [len1, l3.len]
  have le12 : h1.length ≤ h2.length := by rw [e3]; simp
  -- the objects as the callee sees them
  have obs2 : ∀ (i : Nat) o g, hget h2 i = some o → (m1 ++ t3)[i]? = some g → ObRel (m1 ++ t3) g w o := by
    intro i o g ho hg
    rw [e3] at ho
    by_cases hlt : i < h1.length
    · rw [hget_append_left hlt] at ho
      rw [List.getElem?_append_left (by omega)] at hg
      obtain ⟨a1, cs, a2, a3⟩ := i2.obs i o g ho hg
      exact ⟨a1, cs, a2.mono (pre_append _ _), a3⟩
    · rw [hget_append_right (by omega)] at ho
      rw [List.getElem?_append_right (by omega), len1] at hg
      exact (l3.obs _ o g ho hg).2
  have lent_ro : ∀ (i : Nat) o, hget h2 i = some o → o.ro = false → i < h1.length ∧ hget h1 i = some o := by
    intro i o ho hro
    rw [e3] at ho
    by_cases hlt : i < h1.length
    · rw [hget_append_left hlt] at ho; exact ⟨hlt, ho⟩
    · rw [hget_append_right (by omega)] at ho
      have hjl : i - h1.length < t3.length := by rw [l3.len]; exact hget_lt ho
      have := (l3.obs _ o _ ho (List.getElem?_eq_getElem hjl)).1
      rw [hro] at this; cases this
  have get1 : ∀ (i : Nat) g, i < h1.length → (m1 ++ t3)[i]? = some g → m1[i]? = some g := fun i g hlt hg => by
    rwa [List.getElem?_append_left (by omega)] at hg
  have blk_lt : ∀ (i : Nat) o g b, hget h2 i = some o → (m1 ++ t3)[i]? = some g → g.addr = some b → b.1 < w.heap.size := by
    intro i o g b ho hg hb
    obtain ⟨_, cs, _, hp⟩ := obs2 i o g ho hg
    rcases hp with ⟨_, h0⟩ | ⟨b', blk, t, fr, q1, q2, _⟩
    · rw [hb] at h0; cases h0
    · rw [hb] at q1; cases q1; exact (Array.getElem?_eq_some_iff.1 q2).1
  split at hev
  · cases hev
  rename_i hnd
  have hnd' : nodupB sel = true ∧ allLtB h2.length sel = true := by
    cases hq : (nodupB sel && allLtB h2.length sel) with
    | true => simpa using hq
    | false => exact absurd (by rw [hq]; rfl) hnd
  obtain ⟨hnod, hall⟩ := hnd'
  have hlt2 : ∀ {j i : Nat}, sel[j]? = some i → i < (m1 ++ t3).length := fun hj => by rw [len2]; exact allLt_get hall hj
  have hren : RenOK (idx sel 0) (m1 ++ t3) (pickM (m1 ++ t3) sel) := pick_ren sel
  have hmt : ∀ t : GM, m1 ++ t3 ++ t = m ++ (t1 ++ t2 ++ t3 ++ t) := fun t => by rw [← hm1]; simp [List.append_assoc]
  split at hev
  · -- all is lent
    rename_i hdr
    have hcon := hs.ok _ _ _ _ hev
    let G' : Ctx := ⟨w, fun _ => False⟩
    have ic : Inv G' (pickM (m1 ++ t3) sel) (roAll (pickH h2 (idx sel 0) sel)) w := by
      refine ⟨by rw [roAll_length, pickH_length]; simp [pickM], fun j ob gj hj hgj => ?_, fun j ob gj c hj hgj hc => ?_, fun j1 j2 o1 o2 g1 g2 b c hne q1 q2 q3 _ _ _ _ _ => ?_, Str.refl w, Nat.le_refl _, fun _ _ _ => rfl⟩
      · obtain ⟨o', ho', rfl⟩ := roAll_get hj
        obtain ⟨i, o, a1, a2, rfl⟩ := pickH_get _ ho'
        have hg := pickM_back a1 (hlt2 a1) hgj
        obtain ⟨b1, cs, b2, b3⟩ := obs2 i o gj a2 hg
        refine ⟨seqG_xsh (xsh_rens _ _) b1, cs, b2.ren hren, ?_⟩
        rcases b3 with b3 | ⟨b, blk, t, fr, c1, c2, c3, c4, c5, _⟩
        · exact .inl b3
        · exact .inr ⟨b, blk, t, fr, c1, c2, c3, c4, c5, fun h0 => by cases h0⟩
      · obtain ⟨o', ho', rfl⟩ := roAll_get hj
        obtain ⟨i, o, a1, a2, rfl⟩ := pickH_get _ ho'
        exact ⟨fun h0 => h0, blk_lt i o gj c a2 (pickM_back a1 (hlt2 a1) hgj) hc⟩
      · obtain ⟨o', ho', rfl⟩ := roAll_get q1
        cases q3
    refine (hcon G' _ w cvs rfl ic (x3.ren hren)).mono ?_
    rintro e w' ⟨rs, h', hK, v, t, rfl, hrv, ir⟩
    have hext : Ext w w' := ⟨ir.str, ir.size, fun b hb => ir.frame b hb (fun h0 => h0)⟩
    have hb := back_ren (m := m1 ++ t3) (sel := sel) (t := t) hlt2
    rw [len2] at hb
    refine ⟨_, _, hK, v, t1 ++ t2 ++ t3 ++ t, rfl, by rw [← hmt]; exact hrv.ren hb, ?_, fun _ => hext⟩
    rw [← hmt]
    have hpl : (pickM (m1 ++ t3) sel).length = sel.length := by simp [pickM]
    have hlh' : h'.length = sel.length + t.length := by have := ir.len; simp [hpl] at this; omega
    have hbase : (h1 ++ nones (h2.length - h1.length)).length = h2.length := by
      rw [List.length_append, nones_length]
      have : h1.length ≤ h2.length := by rw [e3]; simp
      omega
    have hcase : ∀ (j : Nat) ob g, hget (h1 ++ nones (h2.length - h1.length) ++ newO (backIds sel h2.length) (dropN sel.length h')) j = some ob → (m1 ++ t3 ++ t)[j]? = some g →
        (j < h1.length ∧ hget h1 j = some ob ∧ m1[j]? = some g) ∨ (∃ q es, j = h2.length + q ∧ hget h' (sel.length + q) = some ⟨false, es⟩ ∧ ob = ⟨false, renLs (backIds sel h2.length) es⟩ ∧ (pickM (m1 ++ t3) sel ++ t)[sel.length + q]? = some g) := by
      intro j ob g hj hg
      by_cases hjl : j < (h1 ++ nones (h2.length - h1.length)).length
      · rw [hget_append_left hjl] at hj
        have hj' := app_nones hj
        have hl := hget_lt hj'
        refine .inl ⟨hl, hj', ?_⟩
        rw [List.getElem?_append_left (by omega)] at hg
        exact get1 j g hl hg
      · rw [hget_append_right (by omega)] at hj
        obtain ⟨es, hn, rfl⟩ := newO_get _ hj
        rw [dropN_get] at hn
        rw [hbase] at hn hjl
        refine .inr ⟨j - h2.length, es, by omega, hn, rfl, ?_⟩
        rw [List.getElem?_append_right (by rw [len2]; omega), len2] at hg
        rw [List.getElem?_append_right (by omega), hpl]
        rw [show sel.length + (j - h2.length) - sel.length = j - h2.length by omega]
        exact hg
    refine ⟨?_, fun j ob g hj hg => ?_, fun j ob g c hj hg hc => ?_, fun i j oi oj gi gj b c hne q1 q2 q3 q4 q5 q6 q7 q8 => ?_, i2.str.trans hext.str, Nat.le_trans i2.size hext.size, fun b hb hO => (hext.block b (Nat.lt_of_lt_of_le hb i2.size)).trans (i2.frame b hb hO)⟩
    · rw [List.length_append, len2, List.length_append, hbase, newO_length, dropN_length, hlh']; omega
    · rcases hcase j ob g hj hg with ⟨_, a2, a3⟩ | ⟨q, es, rfl, a2, rfl, a4⟩
      · obtain ⟨b1, cs, b2, b3⟩ := i2.obs j ob g a2 a3
        exact ⟨b1, cs, (b2.mono (pre_append _ _)).mono (pre_append _ _), b3.ext hext⟩
      · obtain ⟨b1, cs, b2, b3⟩ := ir.obs _ _ g a2 a4
        exact ⟨seqG_xsh (xsh_rens _ _) b1, cs, b2.ren hb, b3⟩
    · rcases hcase j ob g hj hg with ⟨_, a2, a3⟩ | ⟨q, es, rfl, a2, rfl, a4⟩
      · exact i2.own j ob g c a2 a3 hc
      · have := ir.own _ _ g c a2 a4 hc
        simp only [Own, Bool.false_eq_true, if_false] at this ⊢
        rcases this with h0 | h0
        · exact h0.elim
        · exact .inr (Nat.le_trans i2.size h0)
    · rcases hcase i oi gi q1 q5 with ⟨_, a2, a3⟩ | ⟨q, es, rfl, a2, rfl, a4⟩
      · rcases hcase j oj gj q2 q6 with ⟨_, b2, b3⟩ | ⟨q', es', rfl, b2, rfl, b4⟩
        · exact i2.dist i j oi oj gi gj b c hne a2 b2 q3 q4 a3 b3 q7 q8
        · have h1 := i2.block_lt a2 a3 q7
          have h2 := ir.own _ _ gj c b2 b4 q8
          simp only [Own, Bool.false_eq_true, if_false] at h2
          rcases h2 with h0 | h0
          · exact h0.elim
          · intro e
            have : w.heap.size ≤ c.1 := h0
            omega
      · rcases hcase j oj gj q2 q6 with ⟨_, b2, b3⟩ | ⟨q', es', rfl, b2, rfl, b4⟩
        · have h1 := i2.block_lt b2 b3 q8
          have h2 := ir.own _ _ gi b a2 a4 q7
          simp only [Own, Bool.false_eq_true, if_false] at h2
          rcases h2 with h0 | h0
          · exact h0.elim
          · intro e
            have : w.heap.size ≤ b.1 := h0
            omega
        · exact ir.dist _ _ _ _ gi gj b c (by omega) a2 b2 rfl rfl a4 b4 q7 q8
  · rename_i hdr
    split at hev
    · cases hev
    rename_i hany
    have hany' : anyMem ids sel = false := by simpa using hany
    have hcon := hs.ok _ _ _ _ hev
    let G' : Ctx := ⟨w, fun b => ∃ i o g b0, i ∈ sel ∧ hget h2 i = some o ∧ o.ro = false ∧ (m1 ++ t3)[i]? = some g ∧ g.addr = some b0 ∧ b0.1 = b⟩
    -- what the callee owns is the caller's own
    have ownO : ∀ b, G'.O b → G.O b ∨ G.w0.heap.size ≤ b := by
      rintro b ⟨i, o, g, b0, hs1, ho, hro, hg, hb0, rfl⟩
      obtain ⟨hlt, ho1⟩ := lent_ro i o ho hro
      have := i2.own i o g b0 ho1 (get1 i g hlt hg) hb0
      rw [hro] at this
      simpa [Own] using this
    have apart : ∀ (i : Nat) o g b0, hget h1 i = some o → m1[i]? = some g → g.addr = some b0 → (o.ro = true ∨ i ∉ sel) → ¬ G'.O b0.1 := by
      rintro i o g b0 ho hg hb0 hc ⟨i', o', g', b', hs1, ho', hro', hg', hb', he⟩
      obtain ⟨hlt', ho1'⟩ := lent_ro i' o' ho' hro'
      have hg1' := get1 i' g' hlt' hg'
      by_cases hii : i = i'
      · subst hii
        rw [ho] at ho1'
        cases ho1'
        rcases hc with hc | hc
        · rw [hro'] at hc; cases hc
        · exact hc hs1
      · cases hro : o.ro with
        | false => exact i2.dist i i' o o' g g' b0 b' hii ho ho1' hro hro' hg hg1' hb0 hb' he.symm
        | true =>
          have a1 := i2.own i o g b0 ho hg hb0
          have a2 := i2.own i' o' g' b' ho1' hg1' hb'
          rw [hro] at a1
          rw [hro'] at a2
          simp only [Own, if_true, Bool.false_eq_true, if_false] at a1 a2
          rw [he] at a2
          rcases a2 with a2 | a2
          · exact a1.1 a2
          · omega
    have ic : Inv G' (pickM (m1 ++ t3) sel) (pickH h2 (idx sel 0) sel) w := by
      refine ⟨by rw [pickH_length]; simp [pickM], fun j ob gj hj hgj => ?_, fun j ob gj c hj hgj hc => ?_, fun j1 j2 o1 o2 g1 g2 b c hne q1 q2 q3 q4 q5 q6 q7 q8 => ?_, Str.refl w, Nat.le_refl _, fun _ _ _ => rfl⟩
      · obtain ⟨i, o, a1, a2, rfl⟩ := pickH_get _ hj
        have hg := pickM_back a1 (hlt2 a1) hgj
        obtain ⟨b1, cs, b2, b3⟩ := obs2 i o gj a2 hg
        exact ⟨seqG_xsh (xsh_rens _ _) b1, cs, b2.ren hren, b3⟩
      · obtain ⟨i, o, a1, a2, rfl⟩ := pickH_get _ hj
        have hg := pickM_back a1 (hlt2 a1) hgj
        have hblt := blk_lt i o gj c a2 hg hc
        cases hro : o.ro with
        | false =>
          simp only [Own, Bool.false_eq_true, if_false]
          exact .inl ⟨i, o, gj, c, List.mem_of_getElem? a1, a2, hro, hg, hc, rfl⟩
        | true =>
          simp only [Own, if_true]
          refine ⟨?_, hblt⟩
          rw [e3] at a2
          by_cases hlt : i < h1.length
          · rw [hget_append_left hlt] at a2
            exact apart i o gj c a2 (get1 i gj hlt hg) hc (.inl hro)
          · rw [hget_append_right (by omega)] at a2
            rw [List.getElem?_append_right (by omega), len1] at hg
            obtain ⟨i0, o0, g0, c0, d1, d2, d3, d4, d5⟩ := l3.from_ _ o gj c a2 hg hc
            rw [← d5]
            exact apart i0 o0 g0 c0 d2 d3 d4 (.inr (anyMem_false hany' d1))
      · obtain ⟨i1, p1', a1, a2, rfl⟩ := pickH_get _ q1
        obtain ⟨i2', p2', b1, b2, rfl⟩ := pickH_get _ q2
        obtain ⟨l1, a2'⟩ := lent_ro i1 p1' a2 q3
        obtain ⟨l2, b2'⟩ := lent_ro i2' p2' b2 q4
        refine i2.dist i1 i2' p1' p2' g1 g2 b c (fun e => ?_) a2' b2' q3 q4 (get1 i1 g1 l1 (pickM_back a1 (hlt2 a1) q5)) (get1 i2' g2 l2 (pickM_back b1 (hlt2 b1) q6)) q7 q8
        subst e
        exact hne (nodupB_get hnod a1 b1)
    refine (hcon G' _ w cvs rfl ic (x3.ren hren)).mono ?_
    rintro e w' ⟨rs, h', hK, v, t, rfl, hrv, ir⟩
    have hb := back_ren (m := m1 ++ t3) (sel := sel) (t := t) hlt2
    rw [len2] at hb
    refine ⟨_, _, hK, v, t1 ++ t2 ++ t3 ++ t, rfl, by rw [← hmt]; exact hrv.ren hb, ?_, fun h0 => absurd h0 hdr⟩
    rw [← hmt]
    have hpl : (pickM (m1 ++ t3) sel).length = sel.length := by simp [pickM]
    have hlh' : h'.length = sel.length + t.length := by have := ir.len; simp [hpl] at this; omega
    have hbase : (h1 ++ nones (h2.length - h1.length)).length = h2.length := by
      rw [List.length_append, nones_length]
      have : h1.length ≤ h2.length := by rw [e3]; simp
      omega
    -- the three kinds of objects behind the call
    have hcase : ∀ (j : Nat) ob g, hget (putBack (backIds sel h2.length) h1.length sel h' (h1 ++ nones (h2.length - h1.length))) j = some ob → (m1 ++ t3 ++ t)[j]? = some g →
        (j ∉ sel ∧ hget h1 j = some ob ∧ m1[j]? = some g) ∨
        (∃ q o o0, sel[q]? = some j ∧ j < h1.length ∧ hget h' q = some o ∧ hget h1 j = some o0 ∧ (∀ b, g.addr = some b → o0.ro = o.ro) ∧ ob = ⟨o0.ro, renLs (backIds sel h2.length) o.es⟩ ∧ (pickM (m1 ++ t3) sel ++ t)[q]? = some g ∧ m1[j]? = some g) ∨
        (∃ q es, hget h' (sel.length + q) = some ⟨false, es⟩ ∧ ob = ⟨false, renLs (backIds sel h2.length) es⟩ ∧ (pickM (m1 ++ t3) sel ++ t)[sel.length + q]? = some g ∧ j = h2.length + q) := by
      intro j ob g hj hg
      rcases putBack_get _ _ hnod hj with ⟨q, o, o0, c1, c2, c3, c4, c6⟩ | ⟨c1, c2⟩ | ⟨q, es, c1, c2, c3⟩
      · have hgj : m1[j]? = some g := get1 j g c2 (by rwa [List.getElem?_append_left (by omega)] at hg)
        have hq : q < sel.length := (List.getElem?_eq_some_iff.1 c1).1
        have hpk : (pickM (m1 ++ t3) sel)[q]? = some g := pickM_get c1 (by rw [List.getElem?_append_left (by omega)]; exact hgj)
        have hpk2 : (pickM (m1 ++ t3) sel ++ t)[q]? = some g := by rw [List.getElem?_append_left (by omega)]; exact hpk
        refine .inr (.inl ⟨q, o, o0, c1, c2, c3, app_nones c4, fun b hb0 => ?_, c6, hpk2, hgj⟩)
        have hin : ∃ oi, hget (pickH h2 (idx sel 0) sel) q = some oi ∧ oi.ro = o0.ro := by
          have h4 : hget h2 j = some o0 := by rw [e3, hget_append_left c2]; exact app_nones c4
          exact ⟨⟨o0.ro, renLs (idx sel 0) o0.es⟩, pickH_at _ c1 h4, rfl⟩
        obtain ⟨oi, hoi, hor⟩ := hin
        have w1 := ic.own q oi g b hoi hpk hb0
        have w2 := ir.own q o g b c3 hpk2 hb0
        rw [← hor]
        cases hA : oi.ro <;> cases hB : o.ro <;> first | rfl | skip
        · rw [hA] at w1; rw [hB] at w2
          simp only [Own, if_true, Bool.false_eq_true, if_false] at w1 w2
          rcases w1 with w1 | w1
          · exact absurd w1 w2.1
          · omega
        · rw [hA] at w1; rw [hB] at w2
          simp only [Own, if_true, Bool.false_eq_true, if_false] at w1 w2
          rcases w2 with w2 | w2
          · exact absurd w2 w1.1
          · omega
      · have hj1 := app_nones c2
        have hl := hget_lt hj1
        exact .inl ⟨c1, hj1, get1 j g hl (by rwa [List.getElem?_append_left (by omega)] at hg)⟩
      · rw [hbase] at c1
        refine .inr (.inr ⟨q, es, c2, c3, ?_, c1⟩)
        subst c1
        rw [List.getElem?_append_right (by omega), len2] at hg
        rw [List.getElem?_append_right (by omega), hpl]
        rw [show sel.length + q - sel.length = q by omega]
        rw [show h2.length + q - h2.length = q by omega] at hg
        exact hg
    have untouched : ∀ (j : Nat) ob g b0, j ∉ sel → hget h1 j = some ob → m1[j]? = some g → g.addr = some b0 → w'.heap[b0.1]? = w.heap[b0.1]? := by
      intro j ob g b0 hj ho hg hb0
      exact ir.frame b0.1 (i2.block_lt ho hg hb0) (apart j ob g b0 ho hg hb0 (.inr hj))
    have newOwn : ∀ (q : Nat) es g b0, hget h' (sel.length + q) = some ⟨false, es⟩ → (pickM (m1 ++ t3) sel ++ t)[sel.length + q]? = some g → g.addr = some b0 → G'.O b0.1 ∨ w.heap.size ≤ b0.1 := by
      intro q es g b0 a1 a2 a3
      have := ir.own _ _ g b0 a1 a2 a3
      simpa [Own] using this
    refine ⟨?_, fun j ob g hj hg => ?_, fun j ob g c hj hg hc => ?_, fun i j oi oj gi gj b c hne q1 q2 q3 q4 q5 q6 q7 q8 => ?_, i2.str.trans ir.str, Nat.le_trans i2.size ir.size, fun b hb hO => ?_⟩
    · rw [List.length_append, len2, putBack_length, hbase, hlh']; omega
    · rcases hcase j ob g hj hg with ⟨a0, a1, a2⟩ | ⟨q, o, o0, a1, a2, a3, a4, a5, rfl, a7, a8⟩ | ⟨q, es, a1, rfl, a3, _⟩
      · obtain ⟨b1, cs, b2, b3⟩ := i2.obs j ob g a1 a2
        refine ⟨b1, cs, (b2.mono (pre_append _ _)).mono (pre_append _ _), ?_⟩
        rcases b3 with b3 | ⟨b', blk, tt, fr, c1, c2, c3⟩
        · exact .inl b3
        · exact .inr ⟨b', blk, tt, fr, c1, by rw [untouched j ob g b' a0 a1 a2 c1]; exact c2, c3⟩
      · obtain ⟨b1, cs, b2, b3⟩ := ir.obs q o g a3 a7
        refine ⟨seqG_xsh (xsh_rens _ _) b1, cs, b2.ren hb, ?_⟩
        rcases b3 with b3 | ⟨b', blk, tt, fr, c1, c2, c3, c4, c5, c6⟩
        · exact .inl b3
        · exact .inr ⟨b', blk, tt, fr, c1, c2, c3, c4, c5, fun h0 => c6 (by rw [← a5 b' c1]; exact h0)⟩
      · obtain ⟨b1, cs, b2, b3⟩ := ir.obs _ _ g a1 a3
        exact ⟨seqG_xsh (xsh_rens _ _) b1, cs, b2.ren hb, b3⟩
    · rcases hcase j ob g hj hg with ⟨a0, a1, a2⟩ | ⟨q, o, o0, a1, a2, a3, a4, a5, rfl, a7, a8⟩ | ⟨q, es, a1, rfl, a3, _⟩
      · exact i2.own j ob g c a1 a2 hc
      · exact i2.own j o0 g c a4 a8 hc
      · rcases newOwn q es g c a1 a3 hc with h0 | h0
        · simp only [Own, Bool.false_eq_true, if_false]; exact ownO _ h0
        · simp only [Own, Bool.false_eq_true, if_false]; exact .inr (Nat.le_trans i2.size h0)
    · rcases hcase i oi gi q1 q5 with ⟨a0, a1, a2⟩ | ⟨q, o, o0, a1, a2, a3, a4, a5, rfl, a7, a8⟩ | ⟨q, es, a1, rfl, a3, aj⟩
      · rcases hcase j oj gj q2 q6 with ⟨b0, b1, b2⟩ | ⟨q', o', o0', b1, b2, b3, b4, b5, rfl, b7, b8⟩ | ⟨q', es', b1, rfl, b3, bj⟩
        · exact i2.dist i j oi oj gi gj b c hne a1 b1 q3 q4 a2 b2 q7 q8
        · exact i2.dist i j oi o0' gi gj b c hne a1 b4 q3 q4 a2 b8 q7 q8
        · intro e
          rcases newOwn q' es' gj c b1 b3 q8 with h0 | h0
          · rw [← e] at h0; exact apart i oi gi b a1 a2 q7 (.inr a0) h0
          · have := i2.block_lt a1 a2 q7; omega
      · rcases hcase j oj gj q2 q6 with ⟨b0, b1, b2⟩ | ⟨q', o', o0', b1, b2, b3, b4, b5, rfl, b7, b8⟩ | ⟨q', es', b1, rfl, b3, bj⟩
        · exact i2.dist i j o0 oj gi gj b c hne a4 b1 q3 q4 a8 b2 q7 q8
        · exact i2.dist i j o0 o0' gi gj b c hne a4 b4 q3 q4 a8 b8 q7 q8
        · have hq : q < sel.length := (List.getElem?_eq_some_iff.1 a1).1
          exact ir.dist q (sel.length + q') o _ gi gj b c (by omega) a3 b1 (by rw [← a5 b q7]; exact q3) rfl a7 b3 q7 q8
      · rcases hcase j oj gj q2 q6 with ⟨b0, b1, b2⟩ | ⟨q', o', o0', b1, b2, b3, b4, b5, rfl, b7, b8⟩ | ⟨q', es', b1, rfl, b3, bj⟩
        · intro e
          rcases newOwn q es gi b a1 a3 q7 with h0 | h0
          · rw [e] at h0; exact apart j oj gj c b1 b2 q8 (.inr b0) h0
          · have := i2.block_lt b1 b2 q8; omega
        · have hq : q' < sel.length := (List.getElem?_eq_some_iff.1 b1).1
          exact ir.dist (sel.length + q) q' _ o' gi gj b c (by omega) a1 b3 rfl (by rw [← b5 c q8]; exact q4) a3 b7 q7 q8
        · exact ir.dist _ _ _ _ gi gj b c (by omega) a1 b1 rfl rfl a3 b3 q7 q8
    · have h0 : b < w.heap.size := Nat.lt_of_lt_of_le hb i2.size
      rw [ir.frame b h0 (fun h1 => by
        rcases ownO b h1 with h2 | h2
        · exact hO h2
        · omega)]
      exact i2.frame b hb hO

end
end Go.Proofs.Ytlokielmpdjedaa.Ev
