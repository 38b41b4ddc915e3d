/- The evaluator is sound, twelfth part: calls. -/
import Derived.Test.YtlokielmpdjedaaEvS11
namespace Go.Proofs.Ytlokielmpdjedaa.Ev
open Go
set_option linter.unusedVariables false

variable {P : Program}

def ResRel (m : GM) : List TV → Value → Prop
  | [x], v => TVRel m x v
  | l, v => ∃ vs, v = .tuple vs ∧ TVs m l vs.toList

/-- What a call of function f comes to, from such arguments and such a heap. -/
def Contract (P : Program) (f : FuncId) (vs : List TV) (h : Heap) (K : List TV → Heap → Option Res) (r : Res) : Prop :=
  ∀ (G : Ctx) (m : GM) (w : World) (cvs : List Value), G.w0 = w → Inv G m h w → TVs m vs cvs →
    Calls P f cvs.toArray w fun e w' => ∃ rs h', K rs h' = some r ∧ ∃ v t, e = .returned v ∧ ResRel (m ++ t) rs v ∧ Inv G (m ++ t) h' w'

structure SoundFn (P : Program) (f : FuncId) (S : Summ) : Prop where
  enter : ∀ args w, (callFunc f args).run P w = .ok (.enter f args) w
  ok : ∀ vs h K r, S vs h K = some r → Contract P f vs h K r

section
variable {G : Ctx} {m : GM} {h : Heap} {w w' : World}

theorem nones_get (n j : Nat) : hget (nones n) j = none := by
  induction n generalizing j with
  | zero => rfl
  | succ n ih => cases j with
    | zero => rfl
    | succ j => exact ih j

theorem nones_length (n : Nat) : (nones n).length = n := by
  induction n with
  | zero => rfl
  | succ n ih => simp [nones, ih]

theorem app_nones {n j : Nat} {ob : Ob} (hg : hget (h ++ nones n) j = some ob) : hget h j = some ob := by
  by_cases hj : j < h.length
  · rwa [hget_append_left hj] at hg
  · rw [hget_append_right (by omega), nones_get] at hg; cases hg

theorem newO_get (f : Nat → Option Nat) : ∀ {h : Heap} {j : Nat} {ob : Ob}, hget (newO f h) j = some ob → ∃ es, hget h j = some ⟨false, es⟩ ∧ ob = ⟨false, renLs f es⟩
  | [], j, ob, hg => by simp [newO, hget] at hg
  | some ⟨false, es⟩ :: r, 0, ob, hg => by simp only [newO, hget, Option.some.injEq] at hg; exact ⟨es, rfl, hg.symm⟩
  | some ⟨true, es⟩ :: r, 0, ob, hg => by simp [newO, hget] at hg
  | none :: r, 0, ob, hg => by simp [newO, hget] at hg
  | some ⟨false, es⟩ :: r, j + 1, ob, hg => by simp only [newO, hget] at hg; exact newO_get f (h := r) (j := j) hg
  | some ⟨true, es⟩ :: r, j + 1, ob, hg => by simp only [newO, hget] at hg; exact newO_get f (h := r) (j := j) hg
  | none :: r, j + 1, ob, hg => by simp only [newO, hget] at hg; exact newO_get f (h := r) (j := j) hg

theorem newO_length (f : Nat → Option Nat) : ∀ (h : Heap), (newO f h).length = h.length
  | [] => rfl
  | some ⟨false, es⟩ :: r => by simp [newO, newO_length f r]
  | some ⟨true, es⟩ :: r => by simp [newO, newO_length f r]
  | none :: r => by simp [newO, newO_length f r]

theorem dropN_get : ∀ (n : Nat) (h : Heap) (j : Nat), hget (dropN n h) j = hget h (n + j)
  | 0, h, j => by simp [dropN]
  | n + 1, [], j => by simp [dropN, hget]
  | n + 1, x :: r, j => by rw [show n + 1 + j = (n + j) + 1 by omega]; simp only [dropN, hget]; exact dropN_get n r j

theorem dropN_length : ∀ (n : Nat) (h : Heap), (dropN n h).length = h.length - n
  | 0, h => by simp [dropN]
  | n + 1, [] => by simp [dropN]
  | n + 1, x :: r => by simp [dropN, dropN_length n r]

/-- Who stands where behind a call. -/
theorem putBack_get (f : Nat → Option Nat) (n1 : Nat) : ∀ {sel : List Nat} {hs h : Heap} {id : Nat} {ob : Ob}, nodupB sel = true → hget (putBack f n1 sel hs h) id = some ob →
    (∃ j o o0, sel[j]? = some id ∧ id < n1 ∧ hget hs j = some o ∧ hget h id = some o0 ∧ ob = ⟨o0.ro, renLs f o.es⟩) ∨
    (id ∉ sel ∧ hget h id = some ob) ∨
    (∃ t es, id = h.length + t ∧ hget hs (sel.length + t) = some ⟨false, es⟩ ∧ ob = ⟨false, renLs f es⟩)
  | [], hs, h, id, ob, hn, hg => by
    simp only [putBack] at hg
    by_cases hj : id < h.length
    · rw [hget_append_left hj] at hg; exact .inr (.inl ⟨by simp, hg⟩)
    · rw [hget_append_right (by omega)] at hg
      obtain ⟨es, h1, h2⟩ := newO_get f hg
      exact .inr (.inr ⟨id - h.length, es, by omega, by simpa using h1, h2⟩)
  | i :: sel, [], h, id, ob, hn, hg => by
    simp only [putBack] at hg
    simp only [nodupB, Bool.and_eq_true] at hn
    rcases putBack_get f n1 hn.2 hg with ⟨j, o, o0, h1, h2, h3, h4, h6⟩ | ⟨h1, h2⟩ | ⟨t, es, h1, h2, h3⟩
    · simp [hget] at h3
    · rcases hget_hset h2 with ⟨_, h0⟩ | ⟨hne, h2⟩
      · cases h0
      · exact .inr (.inl ⟨by simp [hne, h1], h2⟩)
    · simp [hget] at h2
  | i :: sel, x :: hs, h, id, ob, hn, hg => by
    simp only [putBack] at hg
    simp only [nodupB, Bool.and_eq_true, Bool.not_eq_true'] at hn
    have hni : i ∉ sel := fun hm => by rw [← memN_iff] at hm; rw [hm] at hn; exact absurd hn.1 (by simp)
    rcases putBack_get f n1 hn.2 hg with ⟨j, o, o0, h1, h2, h3, h4, h6⟩ | ⟨h1, h2⟩ | ⟨t, es, h1, h2, h3⟩
    · have hne : i ≠ id := fun e => by subst e; exact hni (List.mem_of_getElem? h1)
      rw [hget_hset_ne hne] at h4
      exact .inl ⟨j + 1, o, o0, by simpa using h1, h2, h3, h4, h6⟩
    · rcases hget_hset h2 with ⟨rfl, h0⟩ | ⟨hne, h2⟩
      · unfold backO at h0
        split at h0
        · rename_i hlt
          split at h0
          · rename_i ra ea rb eb ha
            simp only [Option.some.injEq] at h0
            exact .inl ⟨0, ⟨rb, eb⟩, ⟨ra, ea⟩, rfl, hlt, rfl, ha, h0.symm⟩
          · cases h0
        · cases h0
      · exact .inr (.inl ⟨by simp [hne, h1], h2⟩)
    · rw [hset_length] at h1
      refine .inr (.inr ⟨t, es, h1, ?_, h3⟩)
      rw [List.length_cons, show sel.length + 1 + t = (sel.length + t) + 1 by omega]
      exact h2

theorem putBack_length (f : Nat → Option Nat) (n1 : Nat) : ∀ (sel : List Nat) (hs h : Heap), (putBack f n1 sel hs h).length = h.length + (hs.length - sel.length)
  | [], hs, h => by simp [putBack, newO_length]
  | i :: sel, [], h => by simp only [putBack]; rw [putBack_length f n1 sel, hset_length]; simp
  | i :: sel, x :: hs, h => by simp only [putBack]; rw [putBack_length f n1 sel, hset_length]; simp

/-- Parts of slices, lent: what is known of the objects that were laid for them. -/
structure Lent (m : GM) (h1 : Heap) (w : World) (u : Heap) (t : GM) (ids : List Nat) : Prop where
  len : t.length = u.length
  obs : ∀ j ob g, hget u j = some ob → t[j]? = some g → ob.ro = true ∧ ObRel (m ++ t) g w ob
  from_ : ∀ j ob g b, hget u j = some ob → t[j]? = some g → g.addr = some b → ∃ i o gi c, i ∈ ids ∧ hget h1 i = some o ∧ m[i]? = some gi ∧ gi.addr = some c ∧ c.1 = b.1

theorem lend_one (hi : Inv G m h w) {id off lo len : Nat} {cap : Option Nat} {k : EK} {l : List k.den} {v : Value} (hx : LRel m (.slice id off lo len cap) v) (hv : vis h (.slice id off lo len cap) = some ⟨k, l⟩) :
    ∃ g ob, hget h id = some ob ∧ SeqG g [.seq k 0 l] ∧ Placed g w true (cvs k l) ∧ (∀ b, g.addr = some b → ∃ gi c, m[id]? = some gi ∧ gi.addr = some c ∧ c.1 = b.1) ∧
      ∀ (mm : GM) (n : Nat), mm[n]? = some g → LRel mm (.full n) v := by
  have hv2 : visK k h (.slice id off lo len cap) = some l := by simp [visK, hv, cast_refl]
  have hrd := (visK_run (P := default) hi hx hv2).2.2
  obtain ⟨g0, A, C, hg0, rfl, hle, hcap, hln, hbb⟩ := hx
  obtain ⟨hlen, hcell⟩ := hrd A len C rfl
  obtain ⟨ob, hob⟩ : ∃ ob, hget h id = some ob := by
    simp only [vis] at hv
    split at hv
    · rename_i ob hob; exact ⟨ob, hob⟩
    · cases hv
  rcases hbb with hC | ⟨b, hb, hA, hsz⟩
  · have hl0 : l = [] := List.eq_nil_of_length_eq_zero (by omega)
    subst hl0
    refine ⟨ghOf none 0 [.seq k 0 []], ob, hob, ghOf_seq _ _ _, .inl ⟨rfl, rfl⟩, fun b hb => (by cases hb), fun mm n hg => ⟨_, hg, _, A, C, hg, ?_, ?_, ?_, ?_, .inl hC⟩⟩
    · simp [ghOf, drop0, hlen]
    · simp [ghOf, drop0]
    · intro c' hc; cases hc
    · simp
  · obtain ⟨hsg, cs, hoc, hpl⟩ := hi.obs id ob g0 hob hg0
    rcases hpl with ⟨_, h0⟩ | ⟨b', blk, t, fr, q1, q2, q3, q4, q5, q6⟩
    · rw [hb] at h0; cases h0
    · rw [hb] at q1
      cases q1
      have hkw : k.w = g0.ew off := by
        simp only [vis, hob] at hv
        split at hv
        · rename_i k2 n2 l2 r2 hes
          simp only [Option.some.injEq, Sigma.mk.injEq] at hv
          obtain ⟨rfl, _⟩ := hv
          exact (hsg off _ n2 l2 r2 hes).2
        · cases hv
      have hfit : (lo + len) * k.w ≤ (lo + C) * k.w := Nat.mul_le_mul_right _ (by omega)
      rw [← hkw] at hsz
      refine ⟨ghOf (some (b.1, b.2 + off + lo * k.w)) g0.sz [.seq k 0 l], ob, hob, ghOf_seq _ _ _, .inr ⟨_, blk, t, fr, rfl, q2, q3, ?_, fun j hj => ?_, fun h0 => by cases h0⟩, fun b2 hb2 => ?_, fun mm n hg => ⟨_, hg, _, A, C, hg, ?_, ?_, ?_, ?_, .inr ⟨_, rfl, ?_, ?_⟩⟩⟩
      · rw [cvs_length, ← hlen]
        simp only [ghOf]
        simp only [Nat.add_mul] at hfit hsz
        omega
      · have hne : l.length ≠ 0 := fun h0 => by rw [cvs_length, h0] at hj; simp at hj
        obtain ⟨p, hp, hc⟩ := hcell w (Ext.refl w) hne
        rw [hA] at hp
        cases hp
        have := hc j _ (List.getElem?_eq_getElem hj)
        rw [add_at] at this
        simp only [World.cell?, at_, q2] at this
        rw [List.getElem?_eq_getElem hj, ← this, ← hkw]
        simp [Nat.add_assoc]
      · cases hb2; exact ⟨g0, b, hg0, hb, rfl⟩
      · simp [ghOf, drop0, hlen]
      · simp [ghOf, drop0]; omega
      · intro c' hc; cases hc
      · simp
      · rw [hA, hkw]; simp [at_, Nat.add_assoc]
      · simp only [ghOf, drop0]
        simp only [Nat.add_mul] at hsz ⊢
        omega

end
end Go.Proofs.Ytlokielmpdjedaa.Ev
