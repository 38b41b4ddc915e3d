/- A row's arguments, opened as typed values. -/
import Derived.Test.YtlokielmpdjedaaEvS17
import Derived.ChangeArms
import Derived.OpenShut
import Derived.Below
import Derived.Carry
import Derived.ChangeShapes
import Derived.WideShapes
namespace Go.Proofs.Ytlokielmpdjedaa.Ev
open Go Go.RowKit
set_option linter.unusedVariables false

def scK (P : Program) (e : TypeId) : Option EK := match P.underlying e with
  | some (.int k) => some (.int k)
  | some .bool => some .bool
  | some .string => some .str
  | _ => none

def wfE : (k : EK) → k.den → Prop
  | .int k, n => (Lit.int k n).wf = true
  | .bool, _ => True
  | .str, s => s.size ≤ maxLen
  | .pair a b, p => wfE a p.1 ∧ wfE b p.2

def wfD : (s : SL) → s.den → Prop
  | .int k, n => (Lit.int k n).wf = true
  | .str, s => s.size ≤ maxLen
  | .seq k n, l => l.length = n ∧ ∀ x ∈ l, wfE k x
  | _, _ => True

def wfL : (l : List SL) → denL l → Prop
  | [], _ => True
  | s :: r, d => wfD s d.1 ∧ wfL r d.2

def appD : (a b : List SL) → denL a → denL b → denL (a ++ b)
  | [], _, _, y => y
  | _ :: r, b, x, y => (x.1, appD r b x.2 y)

theorem encL_app : ∀ (a b : List SL) (x : denL a) (y : denL b), encL (a ++ b) (appD a b x y) = encL a x ++ encL b y
  | [], _, _, _ => rfl
  | s :: r, b, x, y => by
    show s.enc x.1 :: encL (r ++ b) (appD r b x.2 y) = s.enc x.1 :: (encL r x.2 ++ encL b y)
    rw [encL_app r b]

theorem wfL_app : ∀ (a b : List SL) (x : denL a) (y : denL b), wfL a x → wfL b y → wfL (a ++ b) (appD a b x y)
  | [], _, _, _, _, h => h
  | s :: r, b, x, y, hx, hy => ⟨hx.1, wfL_app r b x.2 y hx.2 hy⟩

section
variable (P : Program)

def slFs (g : TypeId → Option (List SL)) : Nat → List Field → Option (List SL × Nat)
  | off, [] => some ([], off)
  | off, f :: r => if f.offset = off then (match g f.type, slFs g (off + P.cellsOf f.type) r with
    | some a, some (b, n) => some (a ++ b, n)
    | _, _ => none) else none

def slOf : Nat → TypeId → Option (List SL)
  | 0, _ => none
  | f + 1, t => match P.underlying t with
    | some (.int k) => some [.int k]
    | some .bool => some [.bool]
    | some .string => some [.str]
    | some (.array n e) => match scK P e with
      | some k => if P.cellsOf e = 1 ∧ P.cellsOf t = n then some [.seq k n] else none
      | none => none
    | some (.struct fs) => match slFs P (slOf f) 0 fs.toList with
      | some (l, n) => if n = P.cellsOf t then some l else none
      | none => none
    | _ => none
end

section
variable {P : Program} {H : Type} {enc : TypeId × Value → H} {w : World} {base : Nat} {spare : Nat → Bool} {held : Bool}

def Opn (m : GM) (sl : List SL) (cs : List Value) (ps : List MemPlace) : Prop := ∃ d : denL sl, OCells m (encL sl d) cs ∧ wfL sl d ∧ ps = []

theorem sc_open {e : TypeId} {k : EK} {fuel : Nat} {c : List Value} {x : DataW H × List MemPlace} (hk : scK P e = some k) (h : DataW.trod enc P w base spare held fuel e c = some x) :
    ∃ z : k.den, c = k.cv z ∧ wfE k z ∧ x.2 = [] := by
  unfold scK at hk
  split at hk
  · rename_i k' ht
    cases hk
    obtain ⟨n, rfl, rfl, hw⟩ := DataW.trod_int ht h
    exact ⟨n, rfl, hw, rfl⟩
  · rename_i ht
    cases hk
    obtain ⟨b, rfl, rfl⟩ := DataW.trod_bool ht h
    exact ⟨b, rfl, trivial, rfl⟩
  · rename_i ht
    cases hk
    obtain ⟨s, rfl, rfl, hs⟩ := DataW.trod_string ht h
    exact ⟨s, rfl, hs, rfl⟩
  · cases hk

theorem sc_list {e : TypeId} {k : EK} {fuel : Nat} (hk : scK P e = some k) : ∀ (n : Nat) (cs : List Value) (xs : List (DataW H × List MemPlace)), cs.length = n → xs.length = n →
    (∀ i, i < n → DataW.trod enc P w base spare held fuel e ((cs.drop i).take 1) = xs[i]?) → ∃ l : List k.den, cs = cvs k l ∧ l.length = n ∧ (∀ x ∈ l, wfE k x) ∧ xs.flatMap (·.2) = []
  | 0, cs, xs, hc, hx, _ => by
    have := List.eq_nil_of_length_eq_zero hc
    have h2 := List.eq_nil_of_length_eq_zero hx
    subst this; subst h2
    exact ⟨[], rfl, rfl, fun x hx => (by cases hx), rfl⟩
  | n + 1, [], xs, hc, hx, _ => by simp at hc
  | n + 1, c :: cs, [], hc, hx, _ => by simp at hx
  | n + 1, c :: cs, x :: xs, hc, hx, h => by
    have h0 := h 0 (by omega)
    simp only [List.drop_zero, List.take_succ_cons, List.take_zero, List.getElem?_cons_zero] at h0
    obtain ⟨z, hz, hw, hp⟩ := sc_open hk h0
    obtain ⟨l, h1, h2, h3, h4⟩ := sc_list hk n cs xs (by simpa using hc) (by simpa using hx) fun i hi => by simpa using h (i + 1) (by omega)
    refine ⟨z :: l, ?_, by simp [h2], fun y hy => ?_, by simp [hp, h4]⟩
    · rw [h1] ; simp only [cvs, ← hz]; rfl
    · rcases List.mem_cons.1 hy with rfl | hy
      · exact hw
      · exact h3 y hy

theorem slFs_open {m : GM} {g : TypeId → Option (List SL)} {fuel : Nat} (ih : ∀ t sl cs (x : DataW H × List MemPlace), g t = some sl → DataW.trod enc P w base spare held fuel t cs = some x → Opn m sl cs x.2) :
    ∀ (fs : List Field) (off : Nat) (sl : List SL) (n : Nat) (cs : List Value) (xs : List (DataW H × List MemPlace)), slFs P g off fs = some (sl, n) → cs.length = n → xs.length = fs.length →
      (∀ (i : Nat) f, fs[i]? = some f → DataW.trod enc P w base spare held fuel f.type ((cs.drop f.offset).take (P.cellsOf f.type)) = xs[i]?) → Opn m sl (cs.drop off) (xs.flatMap (·.2))
  | [], off, sl, n, cs, xs, hs, hn, hx, _ => by
    simp only [slFs, Option.some.injEq, Prod.mk.injEq] at hs
    obtain ⟨rfl, rfl⟩ := hs
    have := List.eq_nil_of_length_eq_zero hx
    subst this
    exact ⟨(), by simp [encL, OCells, hn], trivial, rfl⟩
  | f :: fs, off, sl, n, cs, xs, hs, hn, hx, h => by
    simp only [slFs] at hs
    split at hs
    · rename_i hoff
      split at hs
      · rename_i a b n' ha hb
        simp only [Option.some.injEq, Prod.mk.injEq] at hs
        obtain ⟨rfl, rfl⟩ := hs
        cases xs with
        | nil => simp at hx
        | cons x xs =>
          have h0 := h 0 f rfl
          rw [hoff] at h0
          obtain ⟨d1, o1, w1, p1⟩ := ih _ _ _ _ ha h0
          obtain ⟨d2, o2, w2, p2⟩ := slFs_open ih fs _ _ _ cs xs hb hn (by simpa using hx) fun i f' hf => by simpa using h (i + 1) f' (by simpa using hf)
          refine ⟨appD _ _ d1 d2, ?_, wfL_app _ _ _ _ w1 w2, by simp [p1, p2]⟩
          rw [encL_app]
          refine ocells_append.2 ⟨_, _, ?_, o1, o2⟩
          rw [← List.drop_drop, List.take_append_drop]
      · cases hs
    · cases hs

theorem slOf_open {m : GM} : ∀ (f : Nat) (t : TypeId) (sl : List SL) (fuel : Nat) (cs : List Value) (x : DataW H × List MemPlace), slOf P f t = some sl →
    DataW.trod enc P w base spare held fuel t cs = some x → Opn m sl cs x.2
  | 0, t, sl, fuel, cs, x, hs, h => by simp [slOf] at hs
  | f + 1, t, sl, fuel, cs, x, hs, h => by
    simp only [slOf] at hs
    split at hs
    · rename_i k ht
      cases hs
      obtain ⟨n, rfl, rfl, hw⟩ := DataW.trod_int ht h
      exact ⟨(n, ()), ⟨[_], [], rfl, ⟨_, rfl, rfl⟩, rfl⟩, ⟨hw, trivial⟩, rfl⟩
    · rename_i ht
      cases hs
      obtain ⟨b, rfl, rfl⟩ := DataW.trod_bool ht h
      exact ⟨(b, ()), ⟨[_], [], rfl, ⟨_, rfl, rfl⟩, rfl⟩, ⟨trivial, trivial⟩, rfl⟩
    · rename_i ht
      cases hs
      obtain ⟨s, rfl, rfl, hw⟩ := DataW.trod_string ht h
      exact ⟨(s, ()), ⟨[_], [], rfl, ⟨_, rfl, rfl⟩, rfl⟩, ⟨hw, trivial⟩, rfl⟩
    · rename_i n e ht
      split at hs
      · rename_i k hk
        split at hs
        · rename_i h1
          cases hs
          obtain ⟨xs, mm, rfl, rfl, hc, hl, hall⟩ := DataW.trod_array ht h
          have hcn : cs.length = n := hc.trans h1.2
          obtain ⟨l, q1, q2, q3, q4⟩ := sc_list hk n cs xs hcn hl fun i hi => by
            have := hall i hi
            rw [h1.1, Nat.mul_one] at this
            exact this
          exact ⟨(l, ()), ⟨cs, [], by simp, ⟨.inr q2, q1⟩, rfl⟩, ⟨⟨q2, q3⟩, trivial⟩, q4⟩
        · cases hs
      · cases hs
    · rename_i fs ht
      split at hs
      · rename_i l n hl
        split at hs
        · rename_i hn
          cases hs
          obtain ⟨xs, mm, rfl, rfl, hc, hx, hall⟩ := DataW.trod_struct ht h
          have := slFs_open (m := m) (fun t sl cs x hs h => slOf_open f t sl mm cs x hs h) fs.toList 0 _ _ cs xs hl (hc.trans hn.symm) (by simpa using hx) fun i f' hf => hall i f' (by simpa using hf)
          simpa using this
        · cases hs
      · cases hs
    · cases hs

/-- One argument without memory of its own, of several cells. -/
theorem arg_agg {m : GM} {r : Reach} {b0 : Nat} {t : TypeId} {v : Value} {d : DataW H} {ps : List MemPlace} {sl : List SL} (hs : slOf P 8 t = some sl) (hag : isAggT P t = true) (hv : Value.okWide P w r b0 t v)
    (h : DataW.Trod enc P w base spare held t v d ps) : ∃ y : denL sl, TVRel m (.agg (encL sl y)) v ∧ wfL sl y ∧ ps = [] := by
  obtain ⟨fuel, hf⟩ := h
  obtain ⟨y, h1, h2, h3⟩ := slOf_open (m := m) _ _ _ _ _ _ hs hf
  have : ∃ cs, v = .agg cs := by
    unfold isAggT at hag
    unfold Value.okWide at hv
    split at hag
    · rename_i fs ht
      rw [ht] at hv
      obtain ⟨cs, h, _⟩ := hv
      exact ⟨cs, h⟩
    · rename_i n e ht
      rw [ht] at hv
      obtain ⟨cs, h, _⟩ := hv
      exact ⟨cs, h⟩
    · cases hag
  obtain ⟨cs, rfl⟩ := this
  exact ⟨y, ⟨cs, rfl, h1⟩, h2, h3⟩

theorem arg_int {r : Reach} {b0 : Nat} {t : TypeId} {k : IntKind} {v : Value} {d : DataW H} {ps : List MemPlace} (ht : P.underlying t = some (.int k)) (hv : Value.okWide P w r b0 t v)
    (h : DataW.Trod enc P w base spare held t v d ps) : ∃ n, v = .int k n ∧ (Lit.int k n).wf = true ∧ ps = [] := by
  obtain ⟨n, rfl⟩ := Go.WideShapes.okWide_int ht hv
  obtain ⟨fuel, hf⟩ := h
  obtain ⟨n', h1, h2, h3⟩ := DataW.trod_int ht hf
  simp [Value.cells] at h1
  subst h1
  exact ⟨n, rfl, h3, congrArg (·.2) h2⟩

theorem arg_bool {r : Reach} {b0 : Nat} {t : TypeId} {v : Value} {d : DataW H} {ps : List MemPlace} (ht : P.underlying t = some .bool) (hv : Value.okWide P w r b0 t v)
    (h : DataW.Trod enc P w base spare held t v d ps) : ∃ b, v = .bool b ∧ ps = [] := by
  obtain ⟨b, rfl⟩ := Go.WideShapes.okWide_bool ht hv
  obtain ⟨fuel, hf⟩ := h
  obtain ⟨b', h1, h2⟩ := DataW.trod_bool ht hf
  exact ⟨b, rfl, congrArg (·.2) h2⟩

theorem arg_str {r : Reach} {b0 : Nat} {t : TypeId} {v : Value} {d : DataW H} {ps : List MemPlace} (ht : P.underlying t = some .string) (hv : Value.okWide P w r b0 t v)
    (h : DataW.Trod enc P w base spare held t v d ps) : ∃ s, v = .string s ∧ s.size ≤ maxLen ∧ ps = [] := by
  obtain ⟨s, rfl⟩ := Go.WideShapes.okWide_string ht hv
  obtain ⟨fuel, hf⟩ := h
  obtain ⟨s', h1, h2, h3⟩ := DataW.trod_string ht hf
  simp [Value.cells] at h1
  subst h1
  exact ⟨s, rfl, h3, congrArg (·.2) h2⟩

theorem trodAll_below (hl : laidOutB P = true) {W W' : World} (hb : Below W.heap.size W W') : ∀ {ts : List TypeId} {vs : List Value} {ds : List (DataW H)} {ps : List MemPlace},
    (∀ t ∈ ts, P.readableRec t = true ∧ t < P.types.size) → DataW.TrodAll enc P W 0 (fun _ => true) true ts vs ds ps → (∀ x ∈ ps, x.block < W.heap.size) →
    DataW.TrodAll enc P W' 0 (fun b => decide (b < W.heap.size)) true ts vs ds ps
  | [], [], [], ps, _, h, _ => h
  | t :: ts, v :: vs, d :: ds, ps, hr, ⟨p, q, h1, h2, h3⟩, hlt => by
    subst h3
    exact ⟨p, q, Go.RowKit.Below.trod hl (hr t (by simp)).1 (hr t (by simp)).2 h1 hb (fun x hx => hlt x (by simp [hx])), trodAll_below hl hb (fun t ht => hr t (by simp [ht])) h2 (fun x hx => hlt x (by simp [hx])), rfl⟩
  | [], _ :: _, _, _, _, h, _ => h.elim
  | [], [], _ :: _, _, _, h, _ => h.elim
  | _ :: _, [], _, _, _, h, _ => h.elim
  | _ :: _, _ :: _, [], _, _, h, _ => h.elim

theorem Ext.below {w w' : World} (h : Ext w w') : Below w.heap.size w w' := ⟨h.str.1, h.str.2.1, h.str.2.2, h.size, fun k hk => h.block k hk⟩

/-- No objects. -/
theorem inv_nil (w : World) (O : Nat → Prop) : Inv ⟨w, O⟩ [] [] w :=
  ⟨rfl, fun id ob g h => by simp [hget] at h, fun id ob g b h => by simp [hget] at h, fun i j oi oj gi gj b c _ h => by simp [hget] at h, Str.refl w, Nat.le_refl _, fun _ _ _ => rfl⟩

end
end Go.Proofs.Ytlokielmpdjedaa.Ev
