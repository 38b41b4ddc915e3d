/- The evaluator is sound, fifteenth part: a region whose order is drawn. -/
import Derived.Test.YtlokielmpdjedaaEvS14
namespace Go.Proofs.Ytlokielmpdjedaa.Ev
open Go
set_option linter.unusedVariables false

variable {P : Program}

section
variable {G : Ctx} {m : GM} {h : Heap} {w w' : World} {a : Act} {env : Env} {o : Oper} {r : Res} {T : FuncId → Option Summ}

theorem evStep_pure (hi : Inv G m h w) (he : ERel m env a) {dr : Bool} {ops : Array Oper} {K : Env → Heap → Option Res} (hp : isPureOp P o.op = true) (hev : evStep P T dr ops.toList o env h K = some r) :
    ∃ v env', YieldsIf P ops (Ext w) o v a ∧ K env' h = some r ∧ ERel m env' (a.put o.dst v) := by
  unfold evStep at hev
  simp only [dstF_eq, esetF_eq] at hev
  have carry : ∀ {env1 : Env}, ERel m env1 a → Region.wanted o (yielded ops a.tmps) = true → evOp P T dr o env1 h (fun v h' => K (dstSet env1 o.dst v) h') = some r →
      ∃ v env', YieldsIf P ops (Ext w) o v a ∧ K env' h = some r ∧ ERel m env' (a.put o.dst v) := by
    intro env1 he1 hw hev1
    unfold evOp at hev1
    rw [if_pos hp] at hev1
    obtain ⟨av, v, h1, h2, h3⟩ := evPure_sound hi he1 hev1
    exact ⟨v, _, .inl ⟨hw, h3⟩, h1, he1.put (.inr h2)⟩
  have skip : ∀ {env1 : Env}, ERel m env1 a → Region.wanted o (yielded ops a.tmps) = false → K (dstSet env1 o.dst .top) h = some r →
      ∃ v env', YieldsIf P ops (Ext w) o v a ∧ K env' h = some r ∧ ERel m env' (a.put o.dst v) := by
    intro env1 he1 hw hev1
    exact ⟨undef, _, .inr ⟨hw, rfl⟩, hev1, he1.put (.inl trivial)⟩
  split at hev
  · rename_i hg
    have : Region.wanted o (yielded ops a.tmps) = true := by simp [Region.wanted, hg]
    exact carry he this hev
  · rename_i j want hg
    split at hev
    · rename_i oj hoj
      split at hev
      · rename_i s hs
        split at hev
        · rename_i b hb
          have hoj' : ops[j]? = some oj := by simpa using hoj
          have hy : yielded ops a.tmps j = some b := by
            simp only [yielded, hoj', Option.bind_some, hs, tmp_bool he hb]
          have hwant : Region.wanted o (yielded ops a.tmps) = (b == want) := by
            simp only [Region.wanted, hg, hy]
            cases b <;> cases want <;> rfl
          cases b with
          | true =>
            simp only [cond_true] at hev
            cases want with
            | true => simp only [if_true] at hev; exact carry (he.lit hb) hwant hev
            | false => simp only [Bool.false_eq_true, if_false] at hev; exact skip (he.lit hb) hwant hev
          | false =>
            simp only [cond_false] at hev
            cases want with
            | true => simp only [if_true] at hev; exact skip (he.lit hb) hwant hev
            | false => simp only [Bool.false_eq_true, if_false] at hev; exact carry (he.lit hb) hwant hev
        · cases hev
      · cases hev
    · cases hev

theorem lastB_spec {ops : Array Oper} {listed : Array Bool} {i : Nat} (h : lastB P ops listed i = true) (d : Nat) (od : Oper) (hod : ops[d]? = some od) (hne : d ≠ i) (hl : isLast P od = true)
    (hun : listed.getD d true = false) : waitsB ops i ops.size d = true := by
  have hd : d < ops.size := by
    rcases Nat.lt_or_ge d ops.size with h' | h'
    · exact h'
    · rw [Array.getElem?_eq_none h'] at hod; cases hod
  unfold lastB at h
  have := List.all_eq_true.1 h d (List.mem_range.2 hd)
  simp only [hod] at this
  have hl' : (!isPureOp P od.op && isDs od.op) = true := hl
  rw [hl', hun] at this
  simpa [hne] using this

theorem wpOp_of {ops : Array Oper} {Q : Exit → Act → World → Prop} {i : Nat} {oi : Oper} {next : Act → World → Prop} (hoi : ops[i]? = some oi)
    (hs : if Region.wanted oi (yielded ops a.tmps) then oi.wp P a w next Q else next (a.put oi.dst undef) w) : wpOp P ops Q i next a w := by
  unfold wpOp
  simp only [hoi]
  split
  · rename_i hw; rw [if_pos hw] at hs; exact .inl hs
  · rename_i hw; rw [if_neg hw] at hs; exact hs

theorem evStep_move (he : ERel m env a) {ops : Array Oper} {K : Env → Heap → Option Res} (hp : isMove o.op = true) (hi : Inv G m h w) (hev : evStep P T true ops.toList o env h K = some r) :
    ∃ v env', YieldsIf P ops (fun _ => True) o v a ∧ K env' h = some r ∧ ERel m env' (a.put o.dst v) := by
  have hpure : isPureOp P o.op = true := by
    unfold isMove at hp
    split at hp
    · rename_i x hx; rw [hx]; rfl
    · rename_i x hx; rw [hx]; rfl
    · cases hp
  obtain ⟨v, env', hy, h1, h2⟩ := evStep_pure hi he (dr := true) (ops := ops) hpure hev
  refine ⟨v, env', ?_, h1, h2⟩
  rcases hy with ⟨hw, hv⟩ | hy
  · refine .inl ⟨hw, fun w' _ => ?_⟩
    have h0 := hv w (Ext.refl w)
    unfold isMove at hp
    split at hp
    · rename_i x hx; simp only [execOp, hx, Sem.run_pure] at h0 ⊢; injection h0 with h0 _; rw [h0]
    · rename_i x hx; simp only [execOp, hx, Sem.run_pure] at h0 ⊢; injection h0 with h0 _; rw [h0]
    · cases hp
  · exact .inr hy

theorem altAll_mem {P : Program} {T : FuncId → Option Summ} {all : List Oper} {env : Env} {h : Heap} {K : Env → Heap → Option Res} {r : Res} : ∀ {l : List (Option PT)} {t : PT}, altAll l = some t →
    ∀ x ∈ l, ∃ u, x = some u ∧ (evPT P T all t env h K = some r → evPT P T all u env h K = some r)
  | [], t, h0, x, hx => by cases hx
  | [y], t, h0, x, hx => by
    simp only [altAll] at h0
    simp only [List.mem_singleton] at hx
    exact ⟨t, hx.trans h0, id⟩
  | y :: z :: l, t, h0, x, hx => by
    cases y with
    | none => simp only [altAll] at h0; cases h0
    | some a =>
      cases hb : altAll (z :: l) with
      | none => simp only [altAll, hb] at h0; cases h0
      | some b =>
        simp only [altAll, hb] at h0
        cases h0
        rcases List.mem_cons.1 hx with rfl | hx
        · exact ⟨a, rfl, fun h => (amb_some (by simpa only [evPT] using h)).1⟩
        · obtain ⟨u, h1, h2⟩ := altAll_mem (P := P) (T := T) (all := all) (env := env) (h := h) (K := K) (r := r) hb x hx
          exact ⟨u, h1, fun h => h2 (amb_some (by simpa only [evPT] using h)).2⟩

/-- The walks serve all orders. -/
theorem planGo_sound (hT : SoundT P T) {ops : Array Oper} {Q : Act → World → Prop} {K : Env → Heap → Option Res} (hsel : Region.noSelect ops = true) :
    ∀ (fuel : Nat) (listed : Array Bool) (l : PT), planGo P ops fuel listed = some l → Closed ops listed →
      ∀ {m : GM} {h : Heap} {w : World} {a : Act} {env : Env}, Inv G m h w → ERel m env a → evPT P T ops.toList l env h K = some r →
        (∀ env' h' m' a' w', K env' h' = some r → Inv G m' h' w' → Pre m m' → ERel m' env' a' → Q a' w') → wpAnyE P ops (fun e a w => e = .normal ∧ Q a w) fuel listed a w := by
  intro fuel
  induction fuel with
  | zero =>
    intro listed l hp hc m h w a env hi he hev hq
    simp only [planGo] at hp
    split at hp
    · rename_i hr
      cases hp
      exact ⟨by simpa using hr, rfl, hq _ _ _ _ _ hev hi (Pre.refl _) he⟩
    · cases hp
  | succ f ih =>
    intro listed l hp hc m h w a env hi he hev hq
    simp only [planGo] at hp
    split at hp
    · rename_i i hfind
      have hir : i ∈ Region.ready .any ops listed := List.mem_of_find?_eq_some hfind
      have htk := List.find?_some hfind
      obtain ⟨_, oi, hoi, _⟩ := mem_ready.1 hir
      split at hp
      · rename_i t ht
        cases hp
        unfold takeable at htk
        simp only [hoi, Bool.and_eq_true, Bool.or_eq_true] at htk
        simp only [evPT, show ops.toList[i]? = some oi by simpa using hoi] at hev
        rcases htk.2 with hmv | hlast
        · obtain ⟨v, env', hy, hev', he'⟩ := evStep_move he hmv hi hev
          have := ih _ _ ht (hc.set hir) hi he' hev' hq
          exact wpAnyE_first0 hoi (fun j o cs b ho => Region.noSelect_spec hsel j o cs b ho) (fun c a w hh => by cases hh.1) f listed _ _
            (fun j oj hj hji hun hno => Region.free_spec hoi htk.1.2 j oj hj hji hun hno) hir hy this
        · obtain ⟨v, env', hy, hev', he'⟩ := evStep_pure hi he htk.1.1 hev
          have := ih _ _ ht (hc.set hir) hi he' hev' hq
          exact wpAnyE_first hoi (fun j o cs b ho => Region.noSelect_spec hsel j o cs b ho) (fun c a w hh => by cases hh.1) ops.size f listed _ _
            (fun j oj hj hji hun hno => Region.free_spec hoi htk.1.2 j oj hj hji hun hno) hc
            (fun d od hd hne hl hun => lastB_spec hlast d od hd hne hl hun) hir hy (Ext.refl _) this
      · cases hp
    · refine ⟨fun h0 => (by rw [h0] at hp; cases hp), fun j hj => ?_⟩
      obtain ⟨_, oi, hoi, _⟩ := mem_ready.1 hj
      obtain ⟨u, hu, hev'⟩ := altAll_mem (P := P) (T := T) (all := ops.toList) (env := env) (h := h) (K := K) (r := r) hp _ (List.mem_map.2 ⟨j, hj, rfl⟩)
      have hev := hev' hev
      split at hu
      · rename_i t ht
        cases hu
        simp only [evPT, show ops.toList[j]? = some oi by simpa using hoi] at hev
        have hs := evStep_wp hT hi he (ops := ops) (Q := fun e a w => e = .normal ∧ Q a w)
          (next := fun a' w' => ((∀ o, ops[j]? = some o → isLast P o = false) → Ext w w') ∧ wpAnyE P ops (fun e a w => e = .normal ∧ Q a w) f (listed.setIfInBounds j true) a' w') hev
          fun a' w' ⟨env', h', m', q1, q2, q3, q4, q5⟩ => ⟨fun ho => q5 rfl (ho _ hoi), ih _ _ ht (hc.set hj) q2 q4 q1 fun env2 h2' m2 a2 w2 p1 p2 p3 p4 => hq _ _ _ _ _ p1 p2 (q3.trans p3) p4⟩
        exact wpOp_of hoi hs
      · cases hu

theorem closed_none {ops : Array Oper} : Closed ops (Array.replicate ops.size false) := by
  intro j oj hj hl
  simp only [Array.getD_eq_getD_getElem?, Array.getElem?_replicate] at hl
  split at hl <;> simp at hl

theorem region_drawn (hm : P.follows .mixedOrders = true) (hT : SoundT P T) {ops : Array Oper} {id : Nat} {Q : Exit → Act → World → Prop} {K : Env → Heap → Option Res} {l : PT} (hp : plan P ops = some l)
    (hi : Inv G m h w) (he : ERel m env a) (hev : evPT P T ops.toList l env h K = some r)
    (hq : ∀ env' h' m' a' w', K env' h' = some r → Inv G m' h' w' → Pre m m' → ERel m' env' a' → Q .normal a' w') : (Code.region id ops true).wp P Q a w := by
  unfold plan at hp
  split at hp
  · rename_i hsel
    have := planGo_sound hT (Q := Q .normal) (K := K) (r := r) (G := G) hsel _ _ _ hp closed_none (hi.ext (Ext.drew w)) he hev hq
    refine wp_mono (wp_region_any hm (wpAny_of_E _ _ _ _ this)) ?_
    rintro e a w ⟨rfl, hq'⟩
    exact hq'
  · cases hp

end
end Go.Proofs.Ytlokielmpdjedaa.Ev
