/- The evaluator is sound, fifth part: slices, texts, parts. -/
import Derived.Test.YtlokielmpdjedaaEvS4
namespace Go.Proofs.Ytlokielmpdjedaa.Ev
open Go
set_option linter.unusedVariables false

variable {P : Program}

section
variable {G : Ctx} {m : GM} {h : Heap} {w : World} {a : Act} {env : Env} {o : Oper} {K : AV → Option Res} {r : Res}

theorem drop0 (l : List LV) : dropW l 0 = some l := by cases l <;> rfl

theorem sliceForm_rel (hi : Inv G m h w) {x : LV} {v : Value} {id off lo len : Nat} {cap : Option Nat} (hs : sliceForm h x = some (id, off, lo, len, cap)) (hx : LRel m x v) :
    SlRel m id off lo len cap v := by
  unfold sliceForm at hs
  split at hs
  · simp only [Option.some.injEq, Prod.mk.injEq] at hs
    obtain ⟨rfl, rfl, rfl, rfl, rfl⟩ := hs
    exact hx
  · rename_i id'
    split at hs
    · rename_i ob hob
      split at hs
      · rename_i k n l hes
        simp only [Option.some.injEq, Prod.mk.injEq] at hs
        obtain ⟨rfl, rfl, rfl, rfl, rfl⟩ := hs
        obtain ⟨g, hg, hsl⟩ := hx
        have := ((hi.obs _ ob g hob hg).1 0 k n l [] (by rw [hes]; exact drop0 _)).1
        rw [this]
        exact hsl
      · cases hs
    · cases hs
  · cases hs

theorem ewAt_rel (hi : Inv G m h w) {id off n : Nat} (he : ewAt h id off = some n) {g : Gh} (hg : m[id]? = some g) : g.ew off = n := by
  unfold ewAt at he
  split at he
  · rename_i ob hob
    split at he
    · rename_i k n' l r hes
      simp only [Option.some.injEq] at he
      rw [← he, ((hi.obs id ob g hob hg).1 off k n' l r hes).2]
    · cases he
  · cases he

theorem lenAt_rel (hi : Inv G m h w) {id off n : Nat} (he : lenAt h id off = some n) {g : Gh} (hg : m[id]? = some g) : g.ln off = n ∧ 0 < n := by
  unfold lenAt at he
  split at he
  · rename_i ob hob
    split at he
    · rename_i k n' l r hes
      split at he
      · rename_i hpos
        simp only [Option.some.injEq] at he
        subst he
        obtain ⟨hsg, cs, hoc, _⟩ := hi.obs id ob g hob hg
        obtain ⟨_, h2⟩ := dropW_cells hes hoc
        obtain ⟨_, _, _, ⟨hl, _⟩, _⟩ := h2
        have := (hsg off k n' l r hes).1
        exact ⟨by rw [← this]; exact hl.resolve_left (by omega), hpos⟩
      · cases he
    · cases he
  · cases he

theorem bnd_rel (he : ERel m env a) {d n : Int} {x : Option Operand} (hb : bnd P env d x = some n) : (x = none ∧ n = d) ∨ ∃ y k, x = some y ∧ a.eval y = .int k n := by
  unfold bnd at hb
  split at hb
  · simp only [Option.some.injEq] at hb; exact .inl ⟨rfl, hb.symm⟩
  · rename_i y
    obtain ⟨k, hk⟩ := int_opd he hb
    exact .inr ⟨y, k, rfl, hk⟩

theorem run_bound {w : World} {k : IntKind} {i : Int} {y : Nat} {c : BoundsCode} (h0 : 0 ≤ i) (h1 : i ≤ y) : (Instr.sliceBound (.int k i) y c).run P w = .ok i.toNat w := by
  simp [Instr.sliceBound, asIntOf, h0, h1]

/-- Bounds of a slice expression without a third index. -/
theorem run_bounds {w : World} {b : Bool} {len cap : Nat} {lo hi : Option Value} {l u : Int} (hl : (lo = none ∧ l = 0) ∨ ∃ k, lo = some (.int k l)) (hu : (hi = none ∧ u = len) ∨ ∃ k, hi = some (.int k u))
    (h0 : 0 ≤ l) (h1 : l ≤ u) (h2 : u ≤ cap) : (Instr.sliceBounds b len cap lo hi none).run P w = .ok (l.toNat, u.toNat, cap) w := by
  have hu0 : 0 ≤ u := Int.le_trans h0 h1
  have e2 : ((u.toNat : Nat) : Int) = u := Int.toNat_of_nonneg hu0
  rcases hl with ⟨rfl, rfl⟩ | ⟨k, rfl⟩ <;> rcases hu with ⟨rfl, rfl⟩ | ⟨k', rfl⟩
  · simp [Instr.sliceBounds]
  · simp [Instr.sliceBounds, run_bound hu0 h2]
  · simp [Instr.sliceBounds, run_bound h0 h1]
  · simp [Instr.sliceBounds, run_bound hu0 h2, run_bound (y := u.toNat) h0 (by rw [e2]; exact h1)]

theorem run_bounds3 {w : World} {b : Bool} {len cap : Nat} {lo : Option Value} {kh km : IntKind} {l u mm : Int} (hl : (lo = none ∧ l = 0) ∨ ∃ k, lo = some (.int k l))
    (h0 : 0 ≤ l) (h1 : l ≤ u) (h2 : u ≤ mm) (h3 : mm ≤ cap) : (Instr.sliceBounds b len cap lo (some (.int kh u)) (some (.int km mm))).run P w = .ok (l.toNat, u.toNat, mm.toNat) w := by
  have hu0 : 0 ≤ u := Int.le_trans h0 h1
  have hm0 : 0 ≤ mm := Int.le_trans hu0 h2
  have e2 : ((u.toNat : Nat) : Int) = u := Int.toNat_of_nonneg hu0
  have e3 : ((mm.toNat : Nat) : Int) = mm := Int.toNat_of_nonneg hm0
  rcases hl with ⟨rfl, rfl⟩ | ⟨k, rfl⟩
  · simp [Instr.sliceBounds, run_bound hm0 h3, run_bound (y := mm.toNat) hu0 (by rw [e3]; exact h2)]
  · simp [Instr.sliceBounds, run_bound hm0 h3, run_bound (y := mm.toNat) hu0 (by rw [e3]; exact h2), run_bound (y := u.toNat) h0 (by rw [e2]; exact h1)]

theorem map_none {x : Option Operand} {d n : Int} (he : ERel m env a) (hb : bnd P env d x = some n) : (x.map a.eval = none ∧ n = d) ∨ ∃ k, x.map a.eval = some (.int k n) := by
  rcases bnd_rel he hb with ⟨rfl, rfl⟩ | ⟨y, k, rfl, hk⟩
  · exact .inl ⟨rfl, rfl⟩
  · exact .inr ⟨k, by simp [hk]⟩

theorem dec_of {p : Prop} [Decidable p] {K : Option Res} {r : Res} (h : cond (decide p) K none = some r) : p ∧ K = some r := by
  by_cases hp : p
  · rw [decide_eq_true hp] at h; exact ⟨hp, h⟩
  · rw [decide_eq_false hp] at h; cases h

/-- A slice of a slice. -/
theorem SlRel.sub {id off lo len : Nat} {cap : Option Nat} {v : Value} (hs : SlRel m id off lo len cap v) {l u : Nat} {M : Nat}
    (h1 : l ≤ u) (h2 : u ≤ M) (h3 : M ≤ cap.getD len ∨ cap = none) (h4 : u ≤ cap.getD len) (a : Option Addr) (L C : Nat) (hv : v = .slice a L C) (hM : M ≤ C) (cap' : Option Nat) (hcap : ∀ c', cap' = some c' → M - l = c')
    (hcap2 : cap'.getD (u - l) ≤ cap.getD len - l) {ew : Nat} (hew : ∀ g, m[id]? = some g → g.ew off = ew) :
    SlRel m id off (lo + l) (u - l) cap' (.slice (if M = l then a else a.map (·.add (l * ew))) (u - l) (M - l)) := by
  obtain ⟨g, a', c, hg, hv', hle, hc, hln, hb⟩ := hs
  rw [hv'] at hv
  cases hv
  refine ⟨g, _, _, hg, rfl, by omega, hcap, by omega, ?_⟩
  by_cases hz : M = l
  · exact .inl (by omega)
  · rcases hb with hb | ⟨b, hb, ha, hsz⟩
    · exact .inl (by omega)
    · refine .inr ⟨b, hb, ?_, ?_⟩
      · rw [if_neg hz, ha]
        simp only [Option.map_some, add_at, Option.some.injEq]
        rw [← hew g hg, Nat.add_mul]
        congr 1; omega
      · have : (lo + l + (M - l)) * g.ew off ≤ (lo + C) * g.ew off := Nat.mul_le_mul_right _ (by omega)
        omega

theorem pure_slice (hi : Inv G m h w) (he : ERel m env a) {t : TypeId} {x : Operand} {lo hh mx : Option Operand} (ho : o.op = .slice t x lo hh mx) (hev : evPure P o env h K = some r) : PureOK P m w a o K r := by
  simp only [evPure, ho] at hev
  split at hev
  · rename_i s hx
    have hv : a.eval x = .string s := opd_rel he hx
    split at hev
    · rename_i l u hl hu ht
      obtain ⟨⟨h0, h1, h2⟩, hev⟩ := dec_of hev
      refine ⟨_, _, hev, rfl, fun w' _ => ?_⟩
      have := run_bounds (P := P) (w := w') (b := false) (map_none he hl) (map_none he hu) h0 h1 h2
      simp [execOp, ho, hv, Instr.sliceAt, Instr.slice, run_under ht, this]
    · cases hev
  · rename_i id off hx
    obtain ⟨g, b, hg, hb, hv⟩ : ∃ g b, m[id]? = some g ∧ g.addr = some b ∧ a.eval x = .pointer (some (at_ b off)) := opd_rel he hx
    split at hev
    · rename_i n e ht
      split at hev
      · rename_i hc
        have hew := ewAt_rel hi hc.1 hg
        obtain ⟨hln, hpos⟩ := lenAt_rel hi hc.2 hg
        split at hev
        · rename_i l u hl hu
          obtain ⟨⟨h0, h1, h2⟩, hev⟩ := dec_of hev
          have hsz : ∃ i, P.info? e = some i ∧ i.size = g.ew off := by
            have hc1 := hc.1
            unfold ewAt at hc1
            split at hc1
            · rename_i ob hob
              split at hc1
              · rename_i k n' l' r' hes
                have hkw : k.w = szOf P e := by simpa using hc1
                obtain ⟨i, hin, hiz⟩ := szOf_info hkw.symm k.w_pos
                exact ⟨i, hin, by rw [hiz, hew, hkw]⟩
              · cases hc1
            · cases hc1
          obtain ⟨i, hin, hiz⟩ := hsz
          refine ⟨_, .slice (some (if n = l.toNat then at_ b off else (at_ b off).add (l.toNat * i.size))) (u.toNat - l.toNat) (n - l.toNat), hev, ?_, fun w' _ => ?_⟩
          rotate_left
          · have := run_bounds (P := P) (w := w') (b := false) (map_none he hl) (map_none he hu) h0 h1 h2
            simp [execOp, ho, hv, Instr.sliceAt, Instr.sureAddr, run_under ht, run_size hin, this]
          · have e1 : ((l.toNat : Nat) : Int) = l := Int.toNat_of_nonneg h0
            have e2 : ((u.toNat : Nat) : Int) = u := Int.toNat_of_nonneg (by omega)
            have e3 : (u - l).toNat = u.toNat - l.toNat := by omega
            refine ⟨g, _, _, hg, by rw [e3], by omega, fun c' hc' => by simpa using hc', by simp; omega, ?_⟩
            by_cases hz : n = l.toNat
            · exact .inl (by omega)
            · refine .inr ⟨b, hb, ?_, ?_⟩
              · rw [if_neg hz, add_at, hiz]
              · obtain ⟨ob, hob⟩ : ∃ ob, hget h id = some ob := by
                  have hc1 := hc.1
                  unfold ewAt at hc1
                  split at hc1
                  · rename_i ob hob; exact ⟨ob, hob⟩
                  · cases hc1
                have hc2 := hc.2
                unfold lenAt at hc2
                simp only [hob] at hc2
                split at hc2
                · rename_i k n' l' r' hes
                  split at hc2
                  · simp only [Option.some.injEq] at hc2
                    subst hc2
                    obtain ⟨hsg, cs, hoc, hpl⟩ := hi.obs id ob g hob hg
                    obtain ⟨hle, h3⟩ := dropW_cells hes hoc
                    obtain ⟨c1, c2, hcs, ⟨hl1, rfl⟩, _⟩ := h3
                    have hl2 := hl1.resolve_left (by omega)
                    have hlen : cs.length - off = l'.length * k.w + c2.length := by
                      have := congrArg List.length hcs
                      simpa [cvs_length] using this
                    have hk := (hsg off k n' l' r' hes).2
                    rcases hpl with ⟨rfl, _⟩ | ⟨b', blk, t', fr, h4, h5, h6, h7, _⟩
                    · simp only [List.length_nil] at hlen hle
                      have : 0 < l'.length * k.w := Nat.mul_pos (by omega) k.w_pos
                      omega
                    · rw [hb] at h4
                      cases h4
                      have : l.toNat + (n' - l.toNat) = n' := by omega
                      rw [this, ← hk, ← hl2]
                      omega
                  · cases hc2
                · cases hc2
        · cases hev
      · cases hev
    · cases hev
  · rename_i x' hx1 hx2 hx
    have hv := opd_rel he hx
    split at hev
    · rename_i id off aa len cap e hsf ht
      split at hev
      · rename_i hc
        have hsl := sliceForm_rel hi hsf hv
        obtain ⟨g, A, C, hg, hval, hle, hcap, hln, hb⟩ := hsl
        have hew := ewAt_rel hi hc hg
        have hsz : ∃ i, P.info? e = some i ∧ i.size = g.ew off := by
          have hc1 := hc
          unfold ewAt at hc1
          split at hc1
          · split at hc1
            · rename_i k n' l' r' hes
              have hkw : k.w = szOf P e := by simpa using hc1
              obtain ⟨i, hin, hiz⟩ := szOf_info hkw.symm k.w_pos
              exact ⟨i, hin, by rw [hiz, hew, hkw]⟩
            · cases hc1
          · cases hc1
        obtain ⟨i, hin, hiz⟩ := hsz
        have hCle : cap.getD len ≤ C := by
          cases cap with
          | none => exact hle
          | some c => have := hcap c rfl; simp; omega
        have hsl' : SlRel m id off aa len cap (.slice A len C) := ⟨g, A, C, hg, rfl, hle, hcap, hln, hb⟩
        have hew' : ∀ g', m[id]? = some g' → g'.ew off = g.ew off := fun g' hg' => by rw [hg] at hg'; cases hg'; rfl
        split at hev
        · rename_i mm l u hm hl hu
          split at hev
          · obtain ⟨⟨h0, h1, h2⟩, hev⟩ := dec_of hev
            have e1 : ((l.toNat : Nat) : Int) = l := Int.toNat_of_nonneg h0
            have e2 : ((u.toNat : Nat) : Int) = u := Int.toNat_of_nonneg (by omega)
            have e3 : (u - l).toNat = u.toNat - l.toNat := by omega
            refine ⟨_, .slice (if C = l.toNat then A else A.map (·.add (l.toNat * i.size))) (u.toNat - l.toNat) (C - l.toNat), hev, ?_, fun w' _ => ?_⟩
            rotate_left
            · have := run_bounds (P := P) (w := w') (b := true) (cap := C) (map_none he hl) (map_none he hu) h0 h1 (by omega)
              simp only [execOp, ho, Instr.sliceAt, Instr.slice, Sem.run_bind, run_under ht, Result.andThen_ok, hval, Option.map_none, this, run_size hin, Sem.run_pure]
            · show SlRel m id off _ _ _ _
              rw [hiz, e3]
              exact hsl'.sub (M := C) (by omega) (by omega) (by
                cases cap with
                | none => exact .inr rfl
                | some c => exact .inl (by have := hcap c rfl; simp; omega)) (by omega) A len C rfl (Nat.le_refl _) _ (by
                  intro c' hc'
                  cases cap with
                  | none => cases hc'
                  | some c => simp only [capLess, Option.some.injEq] at hc'; have := hcap c rfl; omega) (by
                  cases cap with
                  | none => simp only [capLess, Option.getD_none] at h2 ⊢; omega
                  | some c => simp [capLess]) hew'
          · rename_i yy y
            split at hev
            · rename_i yy2 y2
              obtain ⟨⟨h0, h1, h2, h3⟩, hev⟩ := dec_of hev
              have e1 : ((l.toNat : Nat) : Int) = l := Int.toNat_of_nonneg h0
              have e2 : ((u.toNat : Nat) : Int) = u := Int.toNat_of_nonneg (by omega)
              have e4 : ((mm.toNat : Nat) : Int) = mm := Int.toNat_of_nonneg (by omega)
              have e3 : (u - l).toNat = u.toNat - l.toNat := by omega
              have e5 : (mm - l).toNat = mm.toNat - l.toNat := by omega
              obtain ⟨ku, hku⟩ : ∃ k, a.eval y2 = .int k u := by
                rcases bnd_rel he hu with ⟨hq, _⟩ | ⟨q, k, hq, hk⟩
                · cases hq
                · cases hq; exact ⟨k, hk⟩
              obtain ⟨km, hkm⟩ : ∃ k, a.eval y = .int k mm := by
                rcases bnd_rel he hm with ⟨hq, _⟩ | ⟨q, k, hq, hk⟩
                · cases hq
                · cases hq; exact ⟨k, hk⟩
              refine ⟨_, .slice (if mm.toNat = l.toNat then A else A.map (·.add (l.toNat * i.size))) (u.toNat - l.toNat) (mm.toNat - l.toNat), hev, ?_, fun w' _ => ?_⟩
              rotate_left
              · have := run_bounds3 (P := P) (w := w') (b := true) (len := len) (cap := C) (kh := ku) (km := km) (map_none he hl) h0 h1 h2 (by omega)
                simp only [execOp, ho, Instr.sliceAt, Instr.slice, Sem.run_bind, run_under ht, Result.andThen_ok, hval, Option.map_some, hku, hkm, this, run_size hin, Sem.run_pure]
              · show SlRel m id off _ _ _ _
                rw [hiz, e3, e5]
                exact hsl'.sub (M := mm.toNat) (by omega) (by omega) (.inl (by omega)) (by omega) A len C rfl (by omega) _ (by
                    intro c' hc'; simpa using hc') (by simp; omega) hew'
            · cases hev
        · cases hev
      · cases hev
    · cases hev
  · cases hev

end
end Go.Proofs.Ytlokielmpdjedaa.Ev
