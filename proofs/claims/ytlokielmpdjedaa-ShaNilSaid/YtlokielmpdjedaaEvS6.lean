/- The evaluator is sound, sixth part: the rest of what turns no memory. -/
import Derived.Test.YtlokielmpdjedaaEvS5
namespace Go.Proofs.Ytlokielmpdjedaa.Ev
open Go
set_option linter.unusedVariables false

variable {P : Program}

section
variable {G : Ctx} {m : GM} {h : Heap} {w : World} {a : Act} {env : Env} {o : Oper} {K : AV → Option Res} {r : Res}

theorem ew_info (hi : Inv G m h w) {id off : Nat} {e : TypeId} (hc : ewAt h id off = some (szOf P e)) {g : Gh} (hg : m[id]? = some g) : ∃ i, P.info? e = some i ∧ i.size = g.ew off := by
  have hew := ewAt_rel hi hc hg
  unfold ewAt at hc
  split at hc
  · split at hc
    · rename_i k n' l' r' hes
      have hkw : k.w = szOf P e := by simpa using hc
      obtain ⟨i, hin, hiz⟩ := szOf_info hkw.symm k.w_pos
      exact ⟨i, hin, by rw [hiz, hew, hkw]⟩
    · cases hc
  · cases hc

theorem pure_indexAddr (hi : Inv G m h w) (he : ERel m env a) {t : TypeId} {x ix : Operand} (ho : o.op = .indexAddr t x ix) (hev : evPure P o env h K = some r) : PureOK P m w a o K r := by
  simp only [evPure, ho] at hev
  split at hev
  · rename_i n e id off i ht hx hix
    obtain ⟨g, b, hg, hb, hv⟩ : ∃ g b, m[id]? = some g ∧ g.addr = some b ∧ a.eval x = .pointer (some (at_ b off)) := opd_rel he hx
    obtain ⟨k, hk⟩ := int_opd he hix
    split at hev
    · rename_i hc
      obtain ⟨⟨h0, h1⟩, hev⟩ := dec_of hev
      obtain ⟨inf, hin, hiz⟩ := ew_info hi hc hg
      refine ⟨_, .pointer (some (at_ b (off + i.toNat * g.ew off))), hev, ⟨g, b, hg, hb, rfl⟩, fun w' _ => ?_⟩
      simp [execOp, ho, hv, hk, Instr.indexAt, asIntOf, run_under ht, Instr.sureAddr, run_size hin, h0, h1, add_at, hiz]
    · cases hev
  · rename_i e x' i ht hx hix
    have hv := opd_rel he hx
    obtain ⟨k, hk⟩ := int_opd he hix
    split at hev
    · rename_i id off lo len cap hsf
      split at hev
      · rename_i hc
        obtain ⟨⟨h0, h1⟩, hev⟩ := dec_of hev
        obtain ⟨g, A, C, hg, hval, hle, hcap, hln, hb⟩ := sliceForm_rel hi hsf hv
        obtain ⟨inf, hin, hiz⟩ := ew_info hi hc hg
        rcases hb with hb | ⟨b, hb, hA, hsz⟩
        · omega
        · refine ⟨_, .pointer (some (at_ b (off + (lo + i.toNat) * g.ew off))), hev, ⟨g, b, hg, hb, rfl⟩, fun w' _ => ?_⟩
          subst hA
          simp only [execOp, ho, hval, hk, Instr.indexAt, asIntOf, Sem.run_bind, Sem.run_pure, Result.andThen_ok, run_under ht, h0, h1, and_self, if_true, run_size hin, add_at, hiz, Nat.add_mul, Nat.add_assoc]
      · cases hev
    · cases hev
  · cases hev

theorem data_getD (s : ByteArray) (n : Nat) (hn : n < s.size) : s[n]? = some (s.data.getD n 0) := by
  rw [ByteArray.getElem?_lt' s n hn]
  have h' : n < s.data.size := hn
  simp only [Array.getD_eq_getD_getElem?, Array.getElem?_eq_getElem h', Option.getD_some]
  rfl

theorem pure_index (he : ERel m env a) {t : TypeId} {x ix : Operand} (ho : o.op = .index t x ix) (hev : evPure P o env h K = some r) : PureOK P m w a o K r := by
  simp only [evPure, ho] at hev
  split at hev
  · rename_i s i hx hix
    have hv : a.eval x = .string s := opd_rel he hx
    obtain ⟨k, hk⟩ := int_opd he hix
    split at hev
    · rename_i ht
      obtain ⟨⟨h0, h1⟩, hev⟩ := dec_of hev
      refine ⟨_, _, hev, rfl, fun w' _ => ?_⟩
      have hb := data_getD s i.toNat (by omega)
      simp only [execOp, ho, hv, hk, Instr.index, asIntOf, Sem.run_bind, Sem.run_pure, Result.andThen_ok, run_under ht, h0, if_true, hb]
    · cases hev
  · rename_i k' n l i hx hix
    obtain ⟨cs, hv, c1, c2, hcs, ⟨hl, rfl⟩, rfl⟩ : ∃ cs, a.eval x = .agg cs ∧ OCells m [.seq k' n l] cs.toList := opd_rel he hx
    obtain ⟨k, hk⟩ := int_opd he hix
    split at hev
    · rename_i n' e ht
      split at hev
      · rename_i hc
        obtain ⟨rfl, hpos, hsz⟩ := hc
        split at hev
        · rename_i v hld
          obtain ⟨⟨h0, h1⟩, hev⟩ := dec_of hev
          have hl' := hl.resolve_left (by omega)
          obtain ⟨inf, hin, hiz⟩ := szOf_info hsz k'.w_pos
          obtain ⟨val, hval, _, hrun⟩ := ldE_run hld (toLV_cells m k' (l.getD i.toNat k'.zero))
          refine ⟨_, val, hev, hval, fun w' _ => ?_⟩
          have hlt : i.toNat < l.length := by omega
          have hdrop : cs.toList.drop (i.toNat * k'.w) = k'.cv (l.getD i.toNat k'.zero) ++ cvs k' (l.drop (i.toNat + 1)) := by
            rw [hcs, List.append_nil, ← cvs_drop, List.drop_eq_getElem_cons hlt]
            simp only [cvs]
            congr 2
            simp [List.getD_eq_getElem?_getD, hlt]
          have := hrun cs (i.toNat * k'.w) w' _ hdrop
          simp only [execOp, ho, hv, hk, Instr.index, asIntOf, Sem.run_bind, Sem.run_pure, Result.andThen_ok, run_under ht, h0, h1, and_self, if_true, run_size hin, hiz, this]
        · cases hev
      · cases hev
    · cases hev
  · cases hev

/-- A value that is appended, copied, or made a text: its length, its first elements' cells. -/
theorem visK_run (hi : Inv G m h w) {k : EK} {x : LV} {v : Value} {l : List k.den} (hx : LRel m x v) (hv : visK k h x = some l) :
    (∀ w', (Builtin.lenOf v).run P w' = .ok l.length w') ∧
    (∀ w', Ext w w' → ∀ n, n ≤ l.length → (Builtin.firstCells k.w n v).run P w' = .ok (cvs k (l.take n)).toArray w') ∧
    (∀ A L C, v = .slice A L C → L = l.length ∧ (∀ w', Ext w w' → l.length ≠ 0 → ∃ p, A = some p ∧ ∀ j u, (cvs k l)[j]? = some u → w'.cell? (p.add j) = some u)) := by
  have key : ∀ {k' : EK} {l' : List k'.den}, vis h x = some ⟨k', l'⟩ → ∃ A C, v = .slice A l'.length C ∧ (∀ w', Ext w w' → l'.length ≠ 0 → ∃ p, A = some p ∧ ∀ j u, (cvs k' l')[j]? = some u → w'.cell? (p.add j) = some u) := by
    intro k' l' hvis
    have full : ∀ id ob, x = .full id → hget h id = some ob → ∀ n, ob.es = [.seq k' n l'] → ∃ A C, v = .slice A l'.length C ∧ (∀ w', Ext w w' → l'.length ≠ 0 → ∃ p, A = some p ∧ ∀ j u, (cvs k' l')[j]? = some u → w'.cell? (p.add j) = some u) := by
      intro id ob hxe hob n hes
      subst hxe
      obtain ⟨g, hg, g2, A, C, hg2, rfl, hle, _, hln, hb⟩ := hx
      rw [hg] at hg2
      cases hg2
      obtain ⟨hsg, cs, hoc, hpl⟩ := hi.obs id ob g hob hg
      rw [hes] at hsg hoc
      have hlen := (hsg 0 k' n l' [] (drop0 _)).1
      refine ⟨A, C, by rw [hlen], fun w' e hne => ?_⟩
      rcases hb with hb | ⟨b, hb, hA, hsz⟩
      · omega
      · refine ⟨_, hA, fun j u hu => ?_⟩
        obtain ⟨c1, c2, rfl, ⟨_, rfl⟩, rfl⟩ := hoc
        rw [add_at]
        have := (hpl.ext e).read hb j u (by rw [List.append_nil]; exact hu)
        simpa using this
    unfold vis at hvis
    split at hvis
    · rename_i id
      split at hvis
      · rename_i ob hob
        split at hvis
        · rename_i k2 n l2 hes
          simp only [Option.some.injEq, Sigma.mk.injEq] at hvis
          obtain ⟨rfl, hl⟩ := hvis
          have hl := eq_of_heq hl
          subst hl
          exact full id ob rfl hob n hes
        · cases hvis
      · cases hvis
    · rename_i id off lo len cap
      split at hvis
      · rename_i ob hob
        split at hvis
        · rename_i k2 n l2 r2 hes
          simp only [Option.some.injEq, Sigma.mk.injEq] at hvis
          obtain ⟨rfl, hl⟩ := hvis
          have hl := eq_of_heq hl
          subst hl
          obtain ⟨g, A, C, hg, rfl, hle, hcap, hln, hb⟩ := hx
          obtain ⟨hsg, cs, hoc, hpl⟩ := hi.obs id ob g hob hg
          obtain ⟨hlen, hew⟩ := hsg off k2 n l2 r2 hes
          have hcl : len ≤ cap.getD len ∨ cap.getD len = cap.getD len := .inr rfl
          have hll : ((l2.drop lo).take len).length = len := by
            rw [List.length_take, List.length_drop]
            cases cap with
            | none => simp only [Option.getD_none] at hln; omega
            | some c => have := hcap c rfl; simp only [Option.getD_some] at hln; omega
          refine ⟨A, C, by rw [hll], fun w' e hne => ?_⟩
          rw [hll] at hne
          rcases hb with hb | ⟨b, hb, hA, hsz⟩
          · omega
          · refine ⟨_, hA, fun j u hu => ?_⟩
            obtain ⟨_, hd⟩ := dropW_cells hes hoc
            obtain ⟨c1, c2, hcs, ⟨_, rfl⟩, _⟩ := hd
            rw [add_at]
            rw [cvs_take, cvs_drop] at hu
            rw [List.getElem?_take] at hu
            split at hu
            · rw [List.getElem?_drop] at hu
              have h3 : cs[off + (lo * k2.w + j)]? = some u := by
                rw [← List.getElem?_drop, hcs, List.getElem?_append_left (List.getElem?_eq_some_iff.1 hu).1]
                exact hu
              have := (hpl.ext e).read hb _ u h3
              rw [← hew]
              rw [show off + lo * k2.w + j = off + (lo * k2.w + j) by omega]
              exact this
            · cases hu
        · cases hvis
      · cases hvis
    · cases hvis
  unfold visK at hv
  split at hv
  · simp only [Option.some.injEq] at hv
    subst hv
    have hx' : v = .slice none 0 0 := hx
    subst hx'
    refine ⟨fun w' => by simp [Builtin.lenOf], fun w' _ n hn => ?_, fun A L C hq => ?_⟩
    · simp [Builtin.firstCells, cvs]
    · cases hq
      exact ⟨rfl, fun _ _ h => absurd rfl h⟩
  · rename_i s
    split at hv
    · rename_i hk
      subst hk
      simp only [Option.some.injEq, cast_refl] at hv
      subst hv
      have hx' : v = .string s := hx
      subst hx'
      have hsz : (toInts s).length = s.size := by simp [toInts]
      refine ⟨fun w' => by simp [Builtin.lenOf, hsz], fun w' _ n hn => ?_, fun A L C hq => by cases hq⟩
      simp only [Builtin.firstCells, Sem.run_pure, Result.ok.injEq, and_true]
      have hc : ∀ l : List UInt8, cvs (.int .u8) (l.map fun c => (c.toNat : Int)) = l.map fun c => Value.int .u8 (c.toNat : Int) := by
        intro l
        induction l with
        | nil => rfl
        | cons c l ih => simp only [List.map_cons, cvs, EK.cv, ih]; rfl
      have hext : (s.extract 0 n).data = s.data.extract 0 n := by simp
      rw [hext, toInts, ← List.map_take, hc]
      apply Array.ext'
      simp [List.extract_eq_take_drop]
    · cases hv
  · split at hv
    · rename_i k' l' hvis
      split at hv
      · rename_i hk
        subst hk
        simp only [Option.some.injEq, cast_refl] at hv
        subst hv
        obtain ⟨A, C, rfl, hc⟩ := key hvis
        refine ⟨fun w' => by simp [Builtin.lenOf], fun w' e n hn => ?_, fun A' L C' hq => ?_⟩
        · by_cases hz : l'.length = 0
          · have : l' = [] := List.eq_nil_of_length_eq_zero hz
            subst this
            have hn0 : n = 0 := by simpa using hn
            subst hn0
            cases A with
            | none => simp [Builtin.firstCells, cvs]
            | some p =>
              have := run_loadCells_list (P := P) (w := w') p [] (fun j u hu => by cases hu)
              simpa [Builtin.firstCells, cvs] using this
          · obtain ⟨p, rfl, hp⟩ := hc w' e hz
            have := run_loadCells_list (P := P) (w := w') p (cvs k' (l'.take n)) (fun j u hu => by
              rw [cvs_take, List.getElem?_take] at hu
              split at hu
              · exact hp j u hu
              · cases hu)
            rw [cvs_length, List.length_take, Nat.min_eq_left hn] at this
            simpa [Builtin.firstCells] using this
        · cases hq
          exact ⟨rfl, hc⟩
      · cases hv
    · cases hv

end
end Go.Proofs.Ytlokielmpdjedaa.Ev
