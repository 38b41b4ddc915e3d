/- Merged: EvS18, EvMultiDef, ShaBlk, EvF74, EvF75, EvF71, EvF76, EvF70, EvF90, EvF91, EvF72, EvF13, EvS19, ShaB, ShaC, ShaD, ShaK. -/
import Derived.Test.YtlokielmpdjedaaMShaParts3
import Derived.ChangeArms
import Derived.OpenShut
import Derived.Below
import Derived.Carry
import Derived.ChangeShapes
import Derived.WideShapes
import Derived.Test.YtlokielmpdjedaaProg
import Derived.KernelRfl
section
/- A row's arguments, opened as typed values. -/
namespace Go.Proofs.Ytlokielmpdjedaa.Ev
open Go Go.RowKit
set_option linter.unusedVariables false
set_option linter.unusedSimpArgs false
set_option linter.unusedSectionVars false
variable [FZ]

def scK (P : Program) (e : TypeId) : Option EK := match P.underlying e with
  | some (.int k) => some (.int k)
  | some .bool => some .bool
  | some .string => some .str
  | _ => none

def scS (P : Program) (e : TypeId) : Option SK := match P.underlying e with
  | some (.int k) => some (.int k)
  | some .bool => some .bool
  | some .string => some .str
  | _ => none

def wfS : (q : SK) → q.den → Prop
  | .int k, n => (Lit.int k n).wf = true
  | .bool, _ => True
  | .str, s => s.size ≤ maxLen

def wfE : (k : EK) → k.den → Prop
  | .int k, n => (Lit.int k n).wf = true
  | .bool, _ => True
  | .str, s => s.size ≤ maxLen
  | .pair a b, p => wfE a p.1 ∧ wfE b p.2
  | .sl q, x => x.dat.length ≤ maxLen ∧ ∀ y ∈ x.dat, wfS q y

def wfD : (s : SL) → s.den → Prop
  | .int k, n => (Lit.int k n).wf = true
  | .str, s => s.size ≤ maxLen
  | .seq k n, l => l.length = n ∧ ∀ x ∈ l, wfE k x
  | .sl q, x => wfE (.sl q) x
  | _, _ => True

def wfL : (l : List SL) → denL l → Prop
  | [], _ => True
  | s :: r, d => wfD s d.1 ∧ wfL r d.2

def appD : (a b : List SL) → denL a → denL b → denL (a ++ b)
  | [], _, _, y => y
  | _ :: r, b, x, y => (x.1, appD r b x.2 y)

theorem encL_app : ∀ (a b : List SL) (x : denL a) (y : denL b), encL (a ++ b) (appD a b x y) = encL a x ++ encL b y
  | [], _, _, _ => rfl
  | s :: r, b, x, y => by
    show s.enc x.1 :: encL (r ++ b) (appD r b x.2 y) = s.enc x.1 :: (encL r x.2 ++ encL b y)
    rw [encL_app r b]

theorem wfL_app : ∀ (a b : List SL) (x : denL a) (y : denL b), wfL a x → wfL b y → wfL (a ++ b) (appD a b x y)
  | [], _, _, _, _, h => h
  | s :: r, b, x, y, hx, hy => ⟨hx.1, wfL_app r b x.2 y hx.2 hy⟩

section
variable (P : Program)

def slFs (g : TypeId → Option (List SL)) : Nat → List Field → Option (List SL × Nat)
  | off, [] => some ([], off)
  | off, f :: r => if f.offset = off then (match g f.type, slFs g (off + P.cellsOf f.type) r with
    | some a, some (b, n) => some (a ++ b, n)
    | _, _ => none) else none

def slOf : Nat → TypeId → Option (List SL)
  | 0, _ => none
  | f + 1, t => match P.underlying t with
    | some (.int k) => some [.int k]
    | some .bool => some [.bool]
    | some .string => some [.str]
    | some (.array n e) => match scK P e with
      | some k => if P.cellsOf e = 1 ∧ P.cellsOf t = n then some [.seq k n] else none
      | none => none
    | some (.struct fs) => match slFs P (slOf f) 0 fs.toList with
      | some (l, n) => if n = P.cellsOf t then some l else none
      | none => none
    | some (.slice e) => match scS P e with
      | some q => if P.cellsOf e = 1 then some [.sl q] else none
      | none => none
    | _ => none
end

theorem pick_list {α : Type} {n : Nat} {R : Nat → α → Prop} (h : ∀ i, i < n → ∃ z, R i z) : ∃ l : List α, l.length = n ∧ ∀ i z, l[i]? = some z → R i z := by
  induction n with
  | zero => exact ⟨[], rfl, fun i z h => by simp at h⟩
  | succ n ih =>
    obtain ⟨l, h1, h2⟩ := ih fun i hi => h i (by omega)
    obtain ⟨z, hz⟩ := h n (by omega)
    refine ⟨l ++ [z], by simp [h1], fun i y hy => ?_⟩
    by_cases hi : i < n
    · rw [List.getElem?_append_left (by omega)] at hy; exact h2 i y hy
    · rw [List.getElem?_append_right (by omega)] at hy
      have : i = n := by
        have := (List.getElem?_eq_some_iff.1 hy).1
        simp at this; omega
      subst this
      rw [h1, Nat.sub_self] at hy
      cases hy; exact hz

theorem addr_add2 (a : Addr) (x y : Nat) : (a.add x).add y = a.add (x + y) := by
  unfold Addr.add
  by_cases hx : x = 0
  · subst hx; simp
  · by_cases hy : y = 0
    · subst hy; simp
    · simp [hx, hy, Nat.add_assoc]
theorem addr_add {a : Addr} (h : a.spot = none) (q : Nat) : a.add q = ⟨a.block, a.off + q, none⟩ := by
  cases a; simp only at h; subst h
  unfold Addr.add
  split
  · rename_i h; subst h; simp
  · simp

/-- What is known of an object that an argument shows. -/
structure Shown (w : World) (k : EK) (l : List k.den) (g : Gh) (v : Value) : Prop where
  len : l.length ≤ maxLen
  wf : ∀ x ∈ l, wfE k x
  obj : ∀ m, ObRel m g w ⟨true, [.seq k 0 l]⟩
  blk : ∀ b, g.addr = some b → b.1 < w.heap.size
  rel : ∀ (m : GM) id, m[id]? = some g → LRel m (.full id) v

theorem ghOf_ln (b : Option (Nat × Nat)) (sz : Nat) (k : EK) (l : List k.den) : (ghOf b sz [.seq k 0 l]).ln 0 = l.length ∧ (ghOf b sz [.seq k 0 l]).ew 0 = k.w := by
  obtain ⟨h1, h2⟩ := ghOf_seq b sz [.seq k 0 l] 0 k 0 l [] (drop0 _)
  exact ⟨h1.symm, h2.symm⟩

theorem shown_none (w : World) (k : EK) {a : Option Addr} : Shown w k [] (ghOf none 0 [.seq k 0 []]) (.slice a 0 0) := by
  refine ⟨Nat.zero_le _, fun x hx => (by cases hx), fun m => ⟨ghOf_seq _ _ _, [], ⟨[], [], rfl, ⟨.inl rfl, rfl⟩, rfl⟩, .inl ⟨rfl, rfl⟩⟩, fun b hb => (by cases hb), fun m id hid => ?_⟩
  exact ⟨_, hid, _, a, 0, hid, by rw [(ghOf_ln none 0 k []).1]; rfl, by rw [(ghOf_ln none 0 k []).1]; simp, fun c h => (by cases h), by rw [(ghOf_ln none 0 k []).1]; simp, .inl rfl⟩

section
variable {P : Program} {H : Type} {enc : TypeId × Value → H} {w : World} {base : Nat} {spare : Nat → Bool} {held : Bool}

def Opn (m : GM) (sl : List SL) (cs : List Value) (ps : List MemPlace) : Prop := ∃ d : denL sl, OCells m (encL sl d) cs ∧ wfL sl d

theorem sc_open {e : TypeId} {k : EK} {fuel : Nat} {c : List Value} {x : DataW H × List MemPlace} (hk : scK P e = some k) (h : DataW.trod enc P w base spare held fuel e c = some x) :
    ∃ z : k.den, c = k.cv z ∧ wfE k z ∧ x.2 = [] := by
  unfold scK at hk
  split at hk
  · rename_i k' ht
    cases hk
    obtain ⟨n, rfl, rfl, hw⟩ := DataW.trod_int ht h
    exact ⟨n, rfl, hw, rfl⟩
  · rename_i ht
    cases hk
    obtain ⟨b, rfl, rfl⟩ := DataW.trod_bool ht h
    exact ⟨b, rfl, trivial, rfl⟩
  · rename_i ht
    cases hk
    obtain ⟨s, rfl, rfl, hs⟩ := DataW.trod_string ht h
    exact ⟨s, rfl, hs, rfl⟩
  · cases hk

theorem sc_list {e : TypeId} {k : EK} {fuel : Nat} (hk : scK P e = some k) : ∀ (n : Nat) (cs : List Value) (xs : List (DataW H × List MemPlace)), cs.length = n → xs.length = n →
    (∀ i, i < n → DataW.trod enc P w base spare held fuel e ((cs.drop i).take 1) = xs[i]?) → ∃ l : List k.den, cs = cvs k l ∧ l.length = n ∧ (∀ x ∈ l, wfE k x) ∧ xs.flatMap (·.2) = []
  | 0, cs, xs, hc, hx, _ => by
    have := List.eq_nil_of_length_eq_zero hc
    have h2 := List.eq_nil_of_length_eq_zero hx
    subst this; subst h2
    exact ⟨[], rfl, rfl, fun x hx => (by cases hx), rfl⟩
  | n + 1, [], xs, hc, hx, _ => by simp at hc
  | n + 1, c :: cs, [], hc, hx, _ => by simp at hx
  | n + 1, c :: cs, x :: xs, hc, hx, h => by
    have h0 := h 0 (by omega)
    simp only [List.drop_zero, List.take_succ_cons, List.take_zero, List.getElem?_cons_zero] at h0
    obtain ⟨z, hz, hw, hp⟩ := sc_open hk h0
    obtain ⟨l, h1, h2, h3, h4⟩ := sc_list hk n cs xs (by simpa using hc) (by simpa using hx) fun i hi => by simpa using h (i + 1) (by omega)
    refine ⟨z :: l, ?_, by simp [h2], fun y hy => ?_, by simp [hp, h4]⟩
    · rw [h1] ; simp only [cvs, ← hz]; rfl
    · rcases List.mem_cons.1 hy with rfl | hy
      · exact hw
      · exact h3 y hy

theorem slice_core {e t : TypeId} {k : EK} (ht : P.underlying t = some (.slice e)) (hc : P.cellsOf e = k.w) (el : ∀ n cs (x : DataW H × List MemPlace), DataW.trod enc P w 0 (fun _ => true) held n e cs = some x → ∃ z : k.den, cs = k.cv z ∧ wfE k z)
    {a0 : Option Addr} {n0 c0 fuel : Nat} {x : DataW H × List MemPlace} (hf : DataW.trod enc P w 0 (fun _ => true) held fuel t [.slice a0 n0 c0] = some x) :
    ∃ (l : List k.den) (g : Gh), Shown w k l g (.slice a0 n0 c0) := by
  rcases DataW.trod_slice ht hf with ⟨h1, _⟩ | ⟨a, len, cap, elems, rest, n, _, h1, hx, hb, hle, hmax, hlen, hel, hsp, _⟩
  · cases h1
    exact ⟨[], _, shown_none w k⟩
  · simp only [List.cons.injEq, Value.slice.injEq, and_true] at h1
    obtain ⟨rfl, rfl, rfl⟩ := h1
    obtain ⟨hrl, hr⟩ := hsp rfl
    by_cases hcap : c0 = 0
    · subst hcap
      have : n0 = 0 := by omega
      subst this
      exact ⟨[], _, shown_none w k⟩
    have each : ∀ i, i < c0 → ∃ z : k.den, wfE k z ∧ ∀ j, j < k.w → w.cell? (a.add (i * k.w + j)) = (k.cv z)[j]? := by
      intro i hi
      obtain ⟨y, hy⟩ : ∃ y, (w.cells? 0 (a.add (i * P.cellsOf e)) (P.cellsOf e)).bind (DataW.trod enc P w 0 (fun _ => true) held n e) = some y := by
        by_cases hil : i < n0
        · exact ⟨_, (hel i hil).trans (List.getElem?_eq_getElem (by omega))⟩
        · have h2 := hr (i - n0) (by omega)
          rw [show n0 + (i - n0) = i by omega] at h2
          exact ⟨_, h2.trans (List.getElem?_eq_getElem (by omega))⟩
      rw [hc, Option.bind_eq_some_iff] at hy
      obtain ⟨cs, hcs, hy⟩ := hy
      obtain ⟨z, hcv, hwz⟩ := el n cs _ hy
      obtain ⟨_, _, hget⟩ := World.cells?_some hcs
      refine ⟨z, hwz, fun j hj => ?_⟩
      have := hget j hj
      rw [hcv] at this
      rw [← this]
      have e9 : (a.add (i * k.w)).add j = a.add (i * k.w + j) := addr_add2 a _ _
      first | rw [e9] | rw [hc, e9]
    obtain ⟨l, hl1, hl2⟩ := pick_list (n := n0) (R := fun i z => wfE k z ∧ ∀ j, j < k.w → w.cell? (a.add (i * k.w + j)) = (k.cv z)[j]?) fun i hi => each i (by omega)
    have hwp := EK.w_pos k
    have cellOf : ∀ q, q < c0 * k.w → ∃ u, w.cell? (a.add q) = some u := by
      intro q hq
      have hdiv : q / k.w < c0 := Nat.div_lt_of_lt_mul (by rw [Nat.mul_comm]; exact hq)
      obtain ⟨z, _, hz⟩ := each (q / k.w) hdiv
      have h3 := hz (q % k.w) (Nat.mod_lt _ hwp)
      rw [Nat.mul_comm, Nat.div_add_mod] at h3
      have : q % k.w < (k.cv z).length := by rw [cv_length]; exact Nat.mod_lt _ hwp
      rw [List.getElem?_eq_getElem this] at h3
      exact ⟨_, h3⟩
    have hpos : 0 < c0 * k.w := Nat.mul_pos (by omega) hwp
    obtain ⟨blk, ty, fr, hblk, hspot, hget⟩ : ∃ blk ty fr, w.heap[a.block]? = some (.cells blk ty fr) ∧ a.spot = none ∧ ∀ q, w.cell? (a.add q) = blk[a.off + q]? := by
      obtain ⟨u, hu⟩ := cellOf 0 hpos
      rw [show a.add 0 = a by simp [Addr.add]] at hu
      unfold World.cell? at hu
      split at hu
      · rename_i c ty fr hh
        have hh' : w.heap[a.block]? = some (.cells c ty fr) := hh
        split at hu
        · cases hu
        · rename_i hsn
          have hsn' : a.spot = none := by
            cases hq : a.spot with
            | none => rfl
            | some _ => exact absurd (by simp [hq]) hsn
          refine ⟨c, ty, fr, hh', hsn', fun q => ?_⟩
          rw [addr_add hsn' q]
          unfold World.cell?
          simp only [hh']
          rfl
      · cases hu
    have hsize : a.off + c0 * k.w ≤ blk.size := by
      obtain ⟨u, hu⟩ := cellOf (c0 * k.w - 1) (by omega)
      rw [hget] at hu
      have := (Array.getElem?_eq_some_iff.1 hu).1
      omega
    obtain ⟨g1, g2⟩ := ghOf_ln (some (a.block, a.off)) blk.size k l
    have haddr : a = at_ (a.block, a.off) 0 := by
      cases a; simp only at hspot; subst hspot; simp [at_]
    have hcl : (cvs k l).length = n0 * k.w := by rw [cvs_length, hl1]
    have hmul : n0 * k.w ≤ c0 * k.w := Nat.mul_le_mul_right _ hle
    refine ⟨l, ghOf (some (a.block, a.off)) blk.size [.seq k 0 l], by omega, fun x hx => ?_, fun m => ⟨ghOf_seq _ _ _, cvs k l, ⟨cvs k l, [], (List.append_nil _).symm, ⟨.inl rfl, rfl⟩, rfl⟩, .inr ⟨(a.block, a.off), blk, ty, fr, rfl, hblk, rfl, ?_, fun j hj => ?_, fun h0 => by cases h0⟩⟩, fun b hb => ?_, fun m id hid => ?_⟩
    · obtain ⟨i, hi⟩ := List.getElem?_of_mem hx
      exact (hl2 i x hi).1
    · rw [hcl]; simp only [ghOf]; omega
    · rw [hcl] at hj
      have hdiv : j / k.w < n0 := Nat.div_lt_of_lt_mul (by rw [Nat.mul_comm]; exact hj)
      have hmod := Nat.mod_lt j hwp
      have h4 := (hl2 (j / k.w) (l.getD (j / k.w) k.zero) (by rw [List.getD_eq_getElem?_getD, List.getElem?_eq_getElem (by omega)]; rfl)).2 (j % k.w) hmod
      have h5 := cvs_getD k l (j / k.w) (by omega) (j % k.w) hmod
      rw [Nat.mul_comm, Nat.div_add_mod] at h4 h5
      rw [hget] at h4
      rw [h5]; exact h4
    · cases hb; exact (Array.getElem?_eq_some_iff.1 hblk).1
    · refine ⟨_, hid, _, some a, c0, hid, by rw [g1, hl1], by rw [g1]; omega, fun c h => (by cases h), by rw [g1]; simp, .inr ⟨(a.block, a.off), rfl, ?_, ?_⟩⟩
      · simp only [Nat.zero_mul, Nat.add_zero]; rw [← haddr]
      · rw [g2]; simp only [ghOf, Nat.zero_add, Nat.add_zero]; omega


/-- What an argument shows is memory that nothing turns. -/
theorem shown_fz {q : SK} {l : List q.ek.den} {g : Gh} {a0 : Option Addr} {n0 c0 : Nat} (h : Shown w q.ek l g (.slice a0 n0 c0)) : n0 = l.length ∧ FzW (Ctx.of w fun _ => False) a0 c0 (cvs q.ek l) := by
  have hrel := h.rel [g] 0 rfl
  obtain ⟨g1, hg1, g2, A, C, hg2, hv, hle, _, hln, hb⟩ := hrel
  cases hg1
  cases hg2
  cases hv
  obtain ⟨hsg, cs, hoc, hpl⟩ := h.obj []
  have hlen := (hsg 0 q.ek 0 l [] (drop0 _)).1
  have hew := (hsg 0 q.ek 0 l [] (drop0 _)).2
  obtain ⟨_, _, rfl, ⟨_, rfl⟩, rfl⟩ := hoc
  rw [List.append_nil] at hpl
  refine ⟨by rw [hlen], ?_⟩
  have hcl : (cvs q.ek l).length = l.length := by rw [cvs_length, ek_w, Nat.mul_one]
  rcases hb with hb | ⟨b, hb, hA, hsz⟩
  · refine .inl ⟨hb, ?_⟩
    have : l = [] := List.eq_nil_of_length_eq_zero (by omega)
    rw [this]; rfl
  · rcases hpl with ⟨_, h0⟩ | ⟨b', blk, t, fr, p1, p2, p3, p4, p5, _⟩
    · rw [hb] at h0; cases h0
    · rw [hb] at p1; cases p1
      rw [← hew, ek_w] at hsz
      refine .inr ⟨b, blk, t, fr, by rw [hA]; simp, p2, by omega, by omega, p5, fun h0 => h0⟩

theorem toL_inv (q : SK) (l : List q.ek.den) : ∃ d : List q.den, q.toL d = l := by
  cases q <;> exact ⟨l, rfl⟩

theorem wfS_toL {q : SK} {d : List q.den} (h : ∀ x ∈ q.toL d, wfE q.ek x) : ∀ x ∈ d, wfS q x := by
  cases q <;> exact h

theorem sc_ek {e : TypeId} {q : SK} (h : scS P e = some q) : scK P e = some q.ek := by
  unfold scS at h
  unfold scK
  split at h
  · rename_i k ht; cases h; simp only [ht]
  · rename_i ht; cases h; simp only [ht]
  · rename_i ht; cases h; simp only [ht]
  · cases h

theorem slFs_open {m : GM} {g : TypeId → Option (List SL)} {fuel : Nat} (ih : ∀ t sl cs (x : DataW H × List MemPlace), g t = some sl → DataW.trod enc P w base spare held fuel t cs = some x → Opn m sl cs x.2) :
    ∀ (fs : List Field) (off : Nat) (sl : List SL) (n : Nat) (cs : List Value) (xs : List (DataW H × List MemPlace)), slFs P g off fs = some (sl, n) → cs.length = n → xs.length = fs.length →
      (∀ (i : Nat) f, fs[i]? = some f → DataW.trod enc P w base spare held fuel f.type ((cs.drop f.offset).take (P.cellsOf f.type)) = xs[i]?) → Opn m sl (cs.drop off) (xs.flatMap (·.2))
  | [], off, sl, n, cs, xs, hs, hn, hx, _ => by
    simp only [slFs, Option.some.injEq, Prod.mk.injEq] at hs
    obtain ⟨rfl, rfl⟩ := hs
    have := List.eq_nil_of_length_eq_zero hx
    subst this
    exact ⟨(), by simp [encL, OCells, hn], trivial⟩
  | f :: fs, off, sl, n, cs, xs, hs, hn, hx, h => by
    simp only [slFs] at hs
    split at hs
    · rename_i hoff
      split at hs
      · rename_i a b n' ha hb
        simp only [Option.some.injEq, Prod.mk.injEq] at hs
        obtain ⟨rfl, rfl⟩ := hs
        cases xs with
        | nil => simp at hx
        | cons x xs =>
          have h0 := h 0 f rfl
          rw [hoff] at h0
          obtain ⟨d1, o1, w1⟩ := ih _ _ _ _ ha h0
          obtain ⟨d2, o2, w2⟩ := slFs_open ih fs _ _ _ cs xs hb hn (by simpa using hx) fun i f' hf => by simpa using h (i + 1) f' (by simpa using hf)
          refine ⟨appD _ _ d1 d2, ?_, wfL_app _ _ _ _ w1 w2⟩
          rw [encL_app]
          refine ocells_append.2 ⟨_, _, ?_, o1, o2⟩
          rw [← List.drop_drop, List.take_append_drop]
      · cases hs
    · cases hs

theorem slOf_open {m : GM} (hfz : ∀ a cap cs, FzW (Ctx.of w fun _ => False) a cap cs → FZ.ok a cap cs) : ∀ (f : Nat) (t : TypeId) (sl : List SL) (fuel : Nat) (cs : List Value) (x : DataW H × List MemPlace), slOf P f t = some sl →
    DataW.trod enc P w 0 (fun _ => true) held fuel t cs = some x → Opn m sl cs x.2
  | 0, t, sl, fuel, cs, x, hs, h => by simp [slOf] at hs
  | f + 1, t, sl, fuel, cs, x, hs, h => by
    simp only [slOf] at hs
    split at hs
    · rename_i k ht
      cases hs
      obtain ⟨n, rfl, rfl, hw⟩ := DataW.trod_int ht h
      exact ⟨(n, ()), ⟨[_], [], rfl, ⟨_, rfl, rfl⟩, rfl⟩, ⟨hw, trivial⟩⟩
    · rename_i ht
      cases hs
      obtain ⟨b, rfl, rfl⟩ := DataW.trod_bool ht h
      exact ⟨(b, ()), ⟨[_], [], rfl, ⟨_, rfl, rfl⟩, rfl⟩, ⟨trivial, trivial⟩⟩
    · rename_i ht
      cases hs
      obtain ⟨s, rfl, rfl, hw⟩ := DataW.trod_string ht h
      exact ⟨(s, ()), ⟨[_], [], rfl, ⟨_, rfl, rfl⟩, rfl⟩, ⟨hw, trivial⟩⟩
    · rename_i n e ht
      split at hs
      · rename_i k hk
        split at hs
        · rename_i h1
          cases hs
          obtain ⟨xs, mm, rfl, rfl, hc, hl, hall⟩ := DataW.trod_array ht h
          have hcn : cs.length = n := hc.trans h1.2
          obtain ⟨l, q1, q2, q3, q4⟩ := sc_list hk n cs xs hcn hl fun i hi => by
            have := hall i hi
            rw [h1.1, Nat.mul_one] at this
            exact this
          exact ⟨(l, ()), ⟨cs, [], by simp, ⟨.inr q2, q1⟩, rfl⟩, ⟨⟨q2, q3⟩, trivial⟩⟩
        · cases hs
      · cases hs
    · rename_i fs ht
      split at hs
      · rename_i l n hl
        split at hs
        · rename_i hn
          cases hs
          obtain ⟨xs, mm, rfl, rfl, hc, hx, hall⟩ := DataW.trod_struct ht h
          have := slFs_open (m := m) (fun t sl cs x hs h => slOf_open hfz f t sl mm cs x hs h) fs.toList 0 _ _ cs xs hl (hc.trans hn.symm) (by simpa using hx) fun i f' hf => hall i f' (by simpa using hf)
          simpa using this
        · cases hs
      · cases hs
    · rename_i e ht
      split at hs
      · rename_i q hq
        split at hs
        · rename_i h1
          cases hs
          have hv : ∃ a0 n0 c0, cs = [.slice a0 n0 c0] := by
            rcases DataW.trod_slice ht h with ⟨h2, _⟩ | ⟨a, len, cap, elems, rest, n, _, h2, _⟩
            · exact ⟨_, _, _, h2⟩
            · exact ⟨_, _, _, h2⟩
          obtain ⟨a0, n0, c0, rfl⟩ := hv
          obtain ⟨l, g, hsh⟩ := slice_core (k := q.ek) ht (h1.trans (ek_w q).symm) (fun n cs x hx => let ⟨z, z1, z2, _⟩ := sc_open (sc_ek hq) hx; ⟨z, z1, z2⟩) h
          obtain ⟨h3, h4⟩ := shown_fz hsh
          obtain ⟨dd, rfl⟩ := toL_inv q l
          rw [toL_cvs] at h4
          rw [toL_length] at h3
          refine ⟨(⟨a0, c0, dd, .inr (hfz _ _ _ h4)⟩, ()), ⟨[_], [], rfl, ⟨_, rfl, ?_⟩, rfl⟩, ⟨⟨?_, wfS_toL hsh.wf⟩, trivial⟩⟩
          · rw [h3]; rfl
          · have := hsh.len; rw [toL_length] at this; exact this
        · cases hs
      · cases hs
    · cases hs

/-- One argument without memory of its own, of several cells. -/
theorem arg_agg (hfz : ∀ a cap cs, FzW (Ctx.of w fun _ => False) a cap cs → FZ.ok a cap cs) {m : GM} {r : Reach} {b0 : Nat} {t : TypeId} {v : Value} {d : DataW H} {ps : List MemPlace} {sl : List SL} (hs : slOf P 8 t = some sl) (hag : isAggT P t = true) (hv : Value.okWide P w r b0 t v)
    (h : DataW.Trod enc P w 0 (fun _ => true) held t v d ps) : ∃ y : denL sl, TVRel m (.agg (encL sl y)) v ∧ wfL sl y := by
  obtain ⟨fuel, hf⟩ := h
  obtain ⟨y, h1, h2⟩ := slOf_open (m := m) hfz _ _ _ _ _ _ hs hf
  have : ∃ cs, v = .agg cs := by
    unfold isAggT at hag
    unfold Value.okWide at hv
    split at hag
    · rename_i fs ht
      rw [ht] at hv
      obtain ⟨cs, h, _⟩ := hv
      exact ⟨cs, h⟩
    · rename_i n e ht
      rw [ht] at hv
      obtain ⟨cs, h, _⟩ := hv
      exact ⟨cs, h⟩
    · cases hag
  obtain ⟨cs, rfl⟩ := this
  exact ⟨y, ⟨cs, rfl, h1⟩, h2⟩

theorem arg_int {r : Reach} {b0 : Nat} {t : TypeId} {k : IntKind} {v : Value} {d : DataW H} {ps : List MemPlace} (ht : P.underlying t = some (.int k)) (hv : Value.okWide P w r b0 t v)
    (h : DataW.Trod enc P w base spare held t v d ps) : ∃ n, v = .int k n ∧ (Lit.int k n).wf = true ∧ ps = [] := by
  obtain ⟨n, rfl⟩ := Go.WideShapes.okWide_int ht hv
  obtain ⟨fuel, hf⟩ := h
  obtain ⟨n', h1, h2, h3⟩ := DataW.trod_int ht hf
  simp [Value.cells] at h1
  subst h1
  exact ⟨n, rfl, h3, congrArg (·.2) h2⟩

theorem arg_bool {r : Reach} {b0 : Nat} {t : TypeId} {v : Value} {d : DataW H} {ps : List MemPlace} (ht : P.underlying t = some .bool) (hv : Value.okWide P w r b0 t v)
    (h : DataW.Trod enc P w base spare held t v d ps) : ∃ b, v = .bool b ∧ ps = [] := by
  obtain ⟨b, rfl⟩ := Go.WideShapes.okWide_bool ht hv
  obtain ⟨fuel, hf⟩ := h
  obtain ⟨b', h1, h2⟩ := DataW.trod_bool ht hf
  exact ⟨b, rfl, congrArg (·.2) h2⟩

theorem arg_str {r : Reach} {b0 : Nat} {t : TypeId} {v : Value} {d : DataW H} {ps : List MemPlace} (ht : P.underlying t = some .string) (hv : Value.okWide P w r b0 t v)
    (h : DataW.Trod enc P w base spare held t v d ps) : ∃ s, v = .string s ∧ s.size ≤ maxLen ∧ ps = [] := by
  obtain ⟨s, rfl⟩ := Go.WideShapes.okWide_string ht hv
  obtain ⟨fuel, hf⟩ := h
  obtain ⟨s', h1, h2, h3⟩ := DataW.trod_string ht hf
  simp [Value.cells] at h1
  subst h1
  exact ⟨s, rfl, h3, congrArg (·.2) h2⟩

theorem trodAll_below (hl : laidOutB P = true) {W W' : World} (hb : Below W.heap.size W W') : ∀ {ts : List TypeId} {vs : List Value} {ds : List (DataW H)} {ps : List MemPlace},
    (∀ t ∈ ts, P.readableRec t = true ∧ t < P.types.size) → DataW.TrodAll enc P W 0 (fun _ => true) true ts vs ds ps → (∀ x ∈ ps, x.block < W.heap.size) →
    DataW.TrodAll enc P W' 0 (fun b => decide (b < W.heap.size)) true ts vs ds ps
  | [], [], [], ps, _, h, _ => h
  | t :: ts, v :: vs, d :: ds, ps, hr, ⟨p, q, h1, h2, h3⟩, hlt => by
    subst h3
    exact ⟨p, q, Go.RowKit.Below.trod hl (hr t (by simp)).1 (hr t (by simp)).2 h1 hb (fun x hx => hlt x (by simp [hx])), trodAll_below hl hb (fun t ht => hr t (by simp [ht])) h2 (fun x hx => hlt x (by simp [hx])), rfl⟩
  | [], _ :: _, _, _, _, h, _ => h.elim
  | [], [], _ :: _, _, _, h, _ => h.elim
  | _ :: _, [], _, _, _, h, _ => h.elim
  | _ :: _, _ :: _, [], _, _, h, _ => h.elim

theorem Ext.below {w w' : World} (h : Ext w w') : Below w.heap.size w w' := ⟨h.str.1, h.str.2.1, h.str.2.2, h.size, fun k hk => h.block k hk⟩

/-- No objects. -/
theorem inv_nil (hfz : ∀ a cap cs, FZ.ok a cap cs → FzW (Ctx.of w fun _ => False) a cap cs) : Inv (Ctx.of w fun _ => False) [] [] w :=
  ⟨rfl, fun id ob g h => by simp [hget] at h, fun id ob g b h => by simp [hget] at h, fun i j oi oj gi gj b c _ h => by simp [hget] at h, Str.refl w, Nat.le_refl _, fun _ _ _ => rfl, hfz, fun x hx => by cases hx⟩

end
end Go.Proofs.Ytlokielmpdjedaa.Ev
end

section
/- A region of open order that makes several variables at once: what is known whichever operations have come up. -/
namespace Go.Proofs.Ytlokielmpdjedaa.Ev
open Go
set_option linter.unusedVariables false
set_option linter.unusedSimpArgs false
set_option linter.unusedSectionVars false
variable [FZ]
variable {P : Program}

def unl (L : Array Bool) : Nat → Nat
  | 0 => 0
  | n + 1 => unl L n + (if L.getD n true = true then 0 else 1)

theorem unl_ne {L : Array Bool} {i : Nat} : ∀ n, n ≤ i → unl (L.setIfInBounds i true) n = unl L n
  | 0, _ => rfl
  | n + 1, h => by
    simp only [unl]
    rw [unl_ne n (by omega), getD_set_ne true (by omega)]

theorem unl_set {L : Array Bool} {i : Nat} (hi : L.getD i true = false) : ∀ n, i < n → unl (L.setIfInBounds i true) n + 1 = unl L n
  | 0, h => by omega
  | n + 1, h => by
    simp only [unl]
    by_cases hn : i = n
    · subst hn
      have h1 : (L.setIfInBounds i true).getD i true = true := by
        rcases Nat.lt_or_ge i L.size with h' | h'
        · simp [h']
        · simp [Array.getElem?_eq_none h'] at hi
      rw [unl_ne i (Nat.le_refl _), h1, hi]
      simp
    · have := unl_set hi n (by omega)
      rw [getD_set_ne true hn]
      omega

theorem unl_zero {L : Array Bool} : ∀ n, unl L n = 0 → ∀ j, j < n → L.getD j true = true
  | 0, _, j, h => by omega
  | n + 1, h0, j, h => by
    simp only [unl] at h0
    by_cases hj : j = n
    · subst hj
      cases hb : L.getD j true with
      | true => rfl
      | false => rw [hb] at h0; simp at h0
    · exact unl_zero n (by omega) j (by omega)

theorem unl_none : ∀ n m, n ≤ m → unl (Array.replicate m false) n = n
  | 0, _, _ => rfl
  | n + 1, m, h => by
    simp only [unl]
    rw [unl_none n m (by omega)]
    have : (Array.replicate m false).getD n true = false := by simp [show n < m by omega]
    rw [this]; simp

/-- Each edge that binds points back. -/
def backB (ops : Array Oper) : Bool := (List.range ops.size).all fun j => match ops[j]? with
  | some o => o.after.all fun e => !(Region.binds .any e) || decide (e.on < j)
  | none => true

theorem all_listed {ops : Array Oper} (hb : backB ops = true) {L : Array Bool} (hsz : L.size = ops.size) (hr : Region.ready .any ops L = []) : ∀ j, j < ops.size → L.getD j true = true := by
  intro j
  induction j using Nat.strongRecOn with
  | _ j ih =>
    intro hj
    cases hq : L.getD j true with
    | true => rfl
    | false =>
      exfalso
      obtain ⟨o, ho⟩ : ∃ o, ops[j]? = some o := ⟨_, Array.getElem?_eq_getElem hj⟩
      have : j ∈ Region.ready .any ops L := by
        refine mem_ready.2 ⟨hq, o, ho, fun e he hbe => ?_⟩
        have h1 := List.all_eq_true.1 hb j (List.mem_range.2 hj)
        simp only [ho] at h1
        have h2 := Array.all_eq_true'.1 h1 e he
        simp only [hbe, Bool.not_true, Bool.false_or, decide_eq_true_eq] at h2
        have h3 := ih e.on h2 (by omega)
        have : e.on < L.size := by omega
        simp [this] at h3 ⊢
        exact h3
      rw [hr] at this; cases this

/-- What holds whichever operations have come up. -/
theorem wpAny_inv {ops : Array Oper} {Q : Exit → Act → World → Prop} (Phi : Array Bool → Act → World → Prop) (hb : backB ops = true)
    (hstep : ∀ L a w i, L.size = ops.size → Phi L a w → i ∈ Region.ready .any ops L → wpOp P ops Q i (fun a' w' => Phi (L.setIfInBounds i true) a' w') a w)
    (hfin : ∀ L a w, L.size = ops.size → Phi L a w → (∀ j, j < ops.size → L.getD j true = true) → Q .normal a w) :
    ∀ fuel L a w, L.size = ops.size → unl L ops.size ≤ fuel → Phi L a w → wpAny P .any ops Q fuel L a w
  | 0, L, a, w, hsz, hu, hp => by
    have h0 := unl_zero _ (by omega : unl L ops.size = 0)
    refine ⟨?_, hfin L a w hsz hp h0⟩
    cases hr : Region.ready .any ops L with
    | nil => rfl
    | cons i r =>
      obtain ⟨h1, o, h2, _⟩ := mem_ready.1 (show i ∈ Region.ready .any ops L by rw [hr]; simp)
      have := h0 i (Array.getElem?_eq_some_iff.1 h2).1
      rw [h1] at this; cases this
  | fuel + 1, L, a, w, hsz, hu, hp => by
    refine ⟨fun hr => hfin L a w hsz hp (all_listed hb hsz hr), fun i hi => ?_⟩
    obtain ⟨h1, o, h2, _⟩ := mem_ready.1 hi
    have h3 := unl_set h1 ops.size (Array.getElem?_eq_some_iff.1 h2).1
    exact wpOp_mono (fun a' w' h' => wpAny_inv Phi hb hstep hfin fuel _ a' w' (by simpa using hsz) (by omega) h') (hstep L a w i hsz hp hi)

/-- A variable that is made: by which operation, which one stores into it, its slot, its type, what is stored. -/
structure Cel where
  al : Nat
  st : Nat
  dst : Nat
  t : TypeId
  V : Array Value

structure PHI (w0 : World) (a0 : Act) (VL : List (Nat × Nat × Value)) (CL : List Cel) (L : Array Bool) (a : Act) (w : World) : Prop where
  ext : Ext w0 w
  dfr : a.defers = a0.defers
  len : a.tmps.size = a0.tmps.size
  keep : ∀ s, (∀ p ∈ VL, p.2.1 ≠ s) → (∀ c ∈ CL, c.dst ≠ s) → a.tmps.getD s undef = a0.tmps.getD s undef
  vals : ∀ p ∈ VL, L.getD p.1 false = true → a.tmps.getD p.2.1 undef = p.2.2
  ord : ∀ c ∈ CL, L.getD c.st false = true → L.getD c.al false = true
  cells : ∀ c ∈ CL, L.getD c.al false = true → ∃ b, a.tmps.getD c.dst undef = .pointer (some (at_ (b, 0) 0)) ∧ w0.heap.size ≤ b ∧
    ∃ blk, w.heap[b]? = some (.cells blk c.t (0, 0)) ∧ blk.size = c.V.size ∧ (L.getD c.st false = true → blk = c.V)
  dist : ∀ c ∈ CL, ∀ d ∈ CL, c.dst ≠ d.dst → L.getD c.al false = true → L.getD d.al false = true → ∀ b b', a.tmps.getD c.dst undef = .pointer (some (at_ (b, 0) 0)) →
    a.tmps.getD d.dst undef = .pointer (some (at_ (b', 0) 0)) → b ≠ b'

theorem put_getD {a : Act} {d s : Nat} {v : Value} (hd : d < a.tmps.size) : (a.put (some d) v).tmps.getD s undef = if d = s then v else a.tmps.getD s undef := by
  simp only [Act.put, Array.getD_eq_getD_getElem?, Array.getElem?_setIfInBounds]
  split
  · rename_i h; subst h; simp [hd]
  · rfl

theorem set_getD {L : Array Bool} {i j : Nat} (hi : i < L.size) : (L.setIfInBounds i true).getD j false = if i = j then true else L.getD j false := by
  simp only [Array.getD_eq_getD_getElem?, Array.getElem?_setIfInBounds]
  split
  · rename_i h; subst h; simp [hi]
  · rfl

section
variable {w0 : World} {a0 : Act} {VL : List (Nat × Nat × Value)} {CL : List Cel} {L : Array Bool} {a : Act} {w w' : World}

theorem PHI.value (h : PHI w0 a0 VL CL L a w) {p : Nat × Nat × Value} (hp : p ∈ VL) (hi : p.1 < L.size) (hd : p.2.1 < a0.tmps.size) (hq : ∀ q ∈ VL, q.1 = p.1 ∨ q.2.1 = p.2.1 → q = p) (hc : ∀ c ∈ CL, c.dst ≠ p.2.1 ∧ c.al ≠ p.1 ∧ c.st ≠ p.1)
    (e : Ext w w') : PHI w0 a0 VL CL (L.setIfInBounds p.1 true) (a.put (some p.2.1) p.2.2) w' := by
  have hd' : p.2.1 < a.tmps.size := by rw [h.len]; exact hd
  refine ⟨h.ext.trans e, h.dfr, by simp [Act.put, h.len], fun s h1 h2 => ?_, fun q hq' hl => ?_, fun c hc' hl => ?_, fun c hc' hl => ?_, fun c hc' d hd2 hne h1 h2 b b' h3 h4 => ?_⟩
  · rw [put_getD hd', if_neg (h1 p hp)]; exact h.keep s h1 h2
  · rw [put_getD hd']
    rw [set_getD hi] at hl
    split
    · rename_i hs; rw [hq q hq' (.inr hs.symm)]
    · rename_i hs
      rw [if_neg] at hl
      · exact h.vals q hq' hl
      · intro h1; exact hs (by rw [hq q hq' (.inl h1.symm)])
  · obtain ⟨c1, c2, c3⟩ := hc c hc'
    rw [set_getD hi, if_neg (Ne.symm c3)] at hl
    rw [set_getD hi, if_neg (Ne.symm c2)]
    exact h.ord c hc' hl
  · obtain ⟨c1, c2, c3⟩ := hc c hc'
    rw [set_getD hi, if_neg (Ne.symm c2)] at hl
    obtain ⟨b, q1, q2, blk, q3, q4, q5⟩ := h.cells c hc' hl
    refine ⟨b, by rw [put_getD hd', if_neg (Ne.symm c1)]; exact q1, q2, blk, e.get q3, q4, fun h' => q5 ?_⟩
    rw [set_getD hi, if_neg (Ne.symm c3)] at h'
    exact h'
  · obtain ⟨c1, c2, c3⟩ := hc c hc'
    obtain ⟨d1, d2, d3⟩ := hc d hd2
    rw [set_getD hi, if_neg (Ne.symm c2)] at h1
    rw [set_getD hi, if_neg (Ne.symm d2)] at h2
    rw [put_getD hd', if_neg (Ne.symm c1)] at h3
    rw [put_getD hd', if_neg (Ne.symm d1)] at h4
    exact h.dist c hc' d hd2 hne h1 h2 b b' h3 h4

theorem PHI.alloc (h : PHI w0 a0 VL CL L a w) {c : Cel} (hc : c ∈ CL) (hi : c.al < L.size) (hun : L.getD c.al false = false) (hd : c.dst < a0.tmps.size) (hq : ∀ q ∈ VL, q.1 ≠ c.al ∧ q.2.1 ≠ c.dst)
    (hcl : ∀ d ∈ CL, (d.al = c.al ∨ d.dst = c.dst → d = c) ∧ d.st ≠ c.al) {Z : Array Value} (hz : Z.size = c.V.size) :
    PHI w0 a0 VL CL (L.setIfInBounds c.al true) (a.put (some c.dst) (.pointer (some (at_ (w.heap.size, 0) 0)))) (pushB w (.cells Z c.t)) := by
  have hd' : c.dst < a.tmps.size := by rw [h.len]; exact hd
  have e := ext_push w (.cells Z c.t)
  have hne : ∀ d ∈ CL, d ≠ c → c.al ≠ d.al ∧ c.dst ≠ d.dst := fun d hd2 hdc => ⟨fun h1 => hdc ((hcl d hd2).1 (.inl h1.symm)), fun h1 => hdc ((hcl d hd2).1 (.inr h1.symm))⟩
  have hlt : ∀ d ∈ CL, L.getD d.al false = true → ∀ b, a.tmps.getD d.dst undef = .pointer (some (at_ (b, 0) 0)) → b < w.heap.size := by
    intro d hd2 hl b hb
    obtain ⟨b2, q1, q2, blk, q3, _⟩ := h.cells d hd2 hl
    rw [hb] at q1
    have : b = b2 := by injection q1 with q1; injection q1 with q1; simp only [at_, Addr.mk.injEq] at q1; exact q1.1
    rw [this]; exact (Array.getElem?_eq_some_iff.1 q3).1
  have hpt : ∀ {x b : Nat}, (Value.pointer (some (at_ (x, 0) 0))) = .pointer (some (at_ (b, 0) 0)) → x = b := by
    intro x b h1; injection h1 with h1; injection h1 with h1; simp only [at_, Addr.mk.injEq] at h1; exact h1.1
  refine ⟨h.ext.trans e, h.dfr, by simp [Act.put, h.len], fun s h1 h2 => ?_, fun q hq' hl => ?_, fun d hd2 hl => ?_, fun d hd2 hl => ?_, fun d hd2 d' hd3 hdd h1 h2 b b' h3 h4 => ?_⟩
  · rw [put_getD hd', if_neg (h2 c hc)]; exact h.keep s h1 h2
  · rw [set_getD hi, if_neg (Ne.symm (hq q hq').1)] at hl
    rw [put_getD hd', if_neg (Ne.symm (hq q hq').2)]
    exact h.vals q hq' hl
  · rw [set_getD hi, if_neg (Ne.symm (hcl d hd2).2)] at hl
    rw [set_getD hi]
    split
    · rfl
    · exact h.ord d hd2 hl
  · by_cases hdc : d = c
    · subst hdc
      refine ⟨w.heap.size, by rw [put_getD hd', if_pos rfl], h.ext.size, Z, push_get w _, hz, fun hst => ?_⟩
      rw [set_getD hi, if_neg (Ne.symm (hcl d hd2).2)] at hst
      have := h.ord d hd2 hst
      rw [hun] at this; cases this
    · obtain ⟨n1, n2⟩ := hne d hd2 hdc
      rw [set_getD hi, if_neg n1] at hl
      obtain ⟨b, q1, q2, blk, q3, q4, q5⟩ := h.cells d hd2 hl
      refine ⟨b, by rw [put_getD hd', if_neg n2]; exact q1, q2, blk, e.get q3, q4, fun hst => q5 ?_⟩
      rw [set_getD hi, if_neg (Ne.symm (hcl d hd2).2)] at hst
      exact hst
  · by_cases hdc : d = c
    · subst hdc
      rw [put_getD hd', if_pos rfl] at h3
      have n3 : d' ≠ d := fun h0 => hdd (by rw [h0])
      obtain ⟨n1, n2⟩ := hne d' hd3 n3
      rw [set_getD hi, if_neg n1] at h2
      rw [put_getD hd', if_neg n2] at h4
      have := hlt d' hd3 h2 b' h4
      have := hpt h3
      omega
    · obtain ⟨n1, n2⟩ := hne d hd2 hdc
      rw [set_getD hi, if_neg n1] at h1
      rw [put_getD hd', if_neg n2] at h3
      by_cases hdc' : d' = c
      · subst hdc'
        rw [put_getD hd', if_pos rfl] at h4
        have := hlt d hd2 h1 b h3
        have := hpt h4
        omega
      · obtain ⟨m1, m2⟩ := hne d' hd3 hdc'
        rw [set_getD hi, if_neg m1] at h2
        rw [put_getD hd', if_neg m2] at h4
        exact h.dist d hd2 d' hd3 hdd h1 h2 b b' h3 h4

theorem PHI.store (h : PHI w0 a0 VL CL L a w) {c : Cel} (hc : c ∈ CL) (hi : c.st < L.size) (hal : L.getD c.al false = true) (hq : ∀ q ∈ VL, q.1 ≠ c.st)
    (hcl : ∀ d ∈ CL, (d.st = c.st ∨ d.dst = c.dst → d = c) ∧ d.al ≠ c.st) {b : Nat} (hb : a.tmps.getD c.dst undef = .pointer (some (at_ (b, 0) 0))) (ho : OnlyB w w' b) (hw : w'.heap[b]? = some (.cells c.V c.t (0, 0))) :
    PHI w0 a0 VL CL (L.setIfInBounds c.st true) a w' := by
  obtain ⟨b0, q1, q2, blk, q3, q4, q5⟩ := h.cells c hc hal
  have hbb : b0 = b := by
    rw [hb] at q1; injection q1 with q1; injection q1 with q1; simp only [at_, Addr.mk.injEq] at q1; exact q1.1.symm
  subst hbb
  have e : Ext w0 w' := ⟨h.ext.str.trans ho.str, by rw [ho.size]; exact h.ext.size, fun x hx => by rw [ho.block x (by omega)]; exact h.ext.block x hx⟩
  refine ⟨e, h.dfr, h.len, h.keep, fun q hq' hl => ?_, fun d hd2 hl => ?_, fun d hd2 hl => ?_, fun d hd2 d' hd3 hdd h1 h2 b b' h3 h4 => ?_⟩
  · rw [set_getD hi, if_neg (Ne.symm (hq q hq'))] at hl
    exact h.vals q hq' hl
  · rw [set_getD hi, if_neg (Ne.symm (hcl d hd2).2)]
    rw [set_getD hi] at hl
    split at hl
    · rename_i h1; rw [(hcl d hd2).1 (.inl h1.symm)]; exact hal
    · exact h.ord d hd2 hl
  · rw [set_getD hi, if_neg (Ne.symm (hcl d hd2).2)] at hl
    by_cases hdc : d = c
    · subst hdc
      exact ⟨b0, hb, q2, d.V, hw, rfl, fun _ => rfl⟩
    · have hne : d.dst ≠ c.dst := fun h1 => hdc ((hcl d hd2).1 (.inr h1))
      obtain ⟨b1, r1, r2, blk1, r3, r4, r5⟩ := h.cells d hd2 hl
      have hb1 := h.dist d hd2 c hc hne hl hal b1 b0 r1 hb
      refine ⟨b1, r1, r2, blk1, by rw [ho.block b1 hb1]; exact r3, r4, fun hst => r5 ?_⟩
      rw [set_getD hi, if_neg] at hst
      · exact hst
      · intro h1; exact hdc ((hcl d hd2).1 (.inl h1.symm))
  · rw [set_getD hi, if_neg (Ne.symm (hcl d hd2).2)] at h1
    rw [set_getD hi, if_neg (Ne.symm (hcl d' hd3).2)] at h2
    exact h.dist d hd2 d' hd3 hdd h1 h2 b b' h3 h4
end

/-- A call of a function that is handed memory for reading alone, by its summary. -/
theorem calls_of_summ {f : FuncId} {S : Summ} (hs : SoundFn P f S) {vs rs : List TV} {h : Heap} (he : S vs h (fun rs _ => some (rs, [])) = some (rs, [])) {m : GM} {w : World} {cvs : List Value}
    (hi : Inv (Ctx.of w fun _ => False) m h w) (hx : TVs m vs cvs) : Calls P f cvs.toArray w fun e w' => ∃ v t, e = .returned v ∧ ResRel (m ++ t) rs v ∧ Ext w w' := by
  refine (hs.ok vs h _ _ he _ m w cvs rfl rfl rfl hi hx).mono ?_
  rintro e w' ⟨rs', h', hk, v, t, rfl, hr, hi'⟩
  simp only [Option.some.injEq, Prod.mk.injEq, and_true] at hk
  subst hk
  exact ⟨v, t, rfl, hr, hi'.str, hi'.size, fun b hb => hi'.frame b hb (fun h => h)⟩

end Go.Proofs.Ytlokielmpdjedaa.Ev
end

section
/- SHA-256: a block, as the code reckons it: the region that makes three variables in any order, and what is behind it. -/
namespace Go.Proofs.Ytlokielmpdjedaa.X
open Go Go.Proofs.Ytlokielmpdjedaa.Ev Go.Proofs
set_option linter.unusedVariables false
set_option linter.unusedSimpArgs false
set_option linter.unusedSectionVars false
variable [FZ]

def k64 : List Int := [1116352408, 1899447441, 3049323471, 3921009573, 961987163, 1508970993, 2453635748, 2870763221, 3624381080, 310598401, 607225278, 1426881987, 1925078388, 2162078206, 2614888103, 3248222580, 3835390401, 4022224774, 264347078, 604807628, 770255983, 1249150122, 1555081692, 1996064986, 2554220882, 2821834349, 2952996808, 3210313671, 3336571891, 3584528711, 113926993, 338241895, 666307205, 773529912, 1294757372, 1396182291, 1695183700, 1986661051, 2177026350, 2456956037, 2730485921, 2820302411, 3259730800, 3345764771, 3516065817, 3600352804, 4094571909, 275423344, 430227734, 506948616, 659060556, 883997877, 958139571, 1322822218, 1537002063, 1747873779, 1955562222, 2024104815, 2227730452, 2361852424, 2428436474, 2756734187, 3204031479, 3329325298]

noncomputable def ops94 : Array Oper := match cL (cR code94) with | .region _ ops _ => ops | _ => #[]
noncomputable def opB (i : Nat) : Oper := ops94.getD i default

theorem opsB_size : ops94.size = 10 := by kernel_rfl
theorem opsB_back : backB ops94 = true := by kernel_rfl
theorem opsB_get {i : Nat} (h : i < 10) : ops94[i]? = some (opB i) := by
  have : i < ops94.size := by rw [opsB_size]; exact h
  rw [Array.getElem?_eq_getElem this]
  simp [opB, this]

theorem gB0 : ((List.range 10).all fun i => (opB i).guard.isNone) = true := by kernel_rfl
theorem gB (i : Nat) (h : i < 10) : (opB i).guard = none := by
  have := List.all_eq_true.1 gB0 i (List.mem_range.2 h)
  simpa using this

/-- An operation that waits for another one comes up behind it. -/
noncomputable def waits1 (i j : Nat) : Bool := (opB i).after.any fun e => Region.binds .any e && e.on == j
theorem waits1_spec {i j : Nat} (hi : i < 10) (h : waits1 i j = true) {L : Array Bool} (hr : i ∈ Region.ready .any ops94 L) : L.getD j false = true := by
  obtain ⟨_, o, ho, hall⟩ := mem_ready.1 hr
  rw [opsB_get hi] at ho
  cases ho
  obtain ⟨e, he, h1⟩ := Array.any_eq_true'.1 h
  simp only [Bool.and_eq_true, beq_iff_eq] at h1
  rw [← h1.2]; exact hall e he h1.1

abbrev u32v (l : List Int) : Array Value := (cvs (.int .u32) l).toArray
theorem u32v_size (l : List Int) : (u32v l).size = l.length := by simp [u32v, cvs_length, EK.w]

def VLb (b : List Int) (s : List Int) (vb : Value) : List (Nat × Nat × Value) :=
  [(0, 16, .agg (u32v k64)), (1, 17, vb), (2, 18, .agg (u32v (wds b))), (3, 19, .agg (u32v s))]
def CLb (b : List Int) (s : List Int) : List Cel :=
  [⟨4, 7, 5, 116, u32v k64⟩, ⟨5, 8, 6, 116, u32v (wds b)⟩, ⟨6, 9, 7, 107, u32v s⟩]

abbrev hB (ro : Bool) (b s z : List Int) : Heap := [some ⟨ro, [.seq (.int .u8) 0 b]⟩, some ⟨false, [.seq (.int .u32) 8 s]⟩, some ⟨false, [.seq (.int .u32) 8 z]⟩]

/-- A store into a variable that was made. -/
theorem store_new {a : Act} {w : World} {o : Oper} {t : TypeId} {d y n : Nat} {V blk : Array Value} {b : Nat} (ho : o.op = .store t (.tmp d) (.tmp y)) (hs : ∃ i, Try.prog.info? t = some i ∧ i.size = n) (hn : V.size = n) (hbs : blk.size = n)
    (hd : a.tmps.getD d undef = .pointer (some (at_ (b, 0) 0))) (hy : a.tmps.getD y undef = .agg V) (hlf : ∀ v ∈ V.toList, leafV v) (hb : w.heap[b]? = some (.cells blk t (0, 0))) :
    ∃ w', (execOp a.eval o).run Try.prog w = .ok .skip w' ∧ OnlyB w w' b ∧ w'.heap[b]? = some (.cells V t (0, 0)) := by
  obtain ⟨i, hi, hin⟩ := hs
  obtain ⟨w', cur', q1, q2, q3, q4⟩ := run_storeCells_any (P := Try.prog) (g := b) (o := 0) (t := t) (fr := (0, 0)) V.toList 0 blk w hb (by simp; omega) hlf (fun j _ => by simp)
  have hV : cur' = V := by
    apply Array.ext'
    rw [q4]
    have : blk.toList.length = n := by simpa using hbs
    have h2 : V.toList.length = n := by simpa using hn
    simp only [Nat.zero_add, List.take_zero, List.nil_append]
    rw [List.drop_eq_nil_of_le (by omega), List.append_nil]
  subst hV
  refine ⟨w', ?_, q2, q3⟩
  have ex : a.eval (.tmp d) = .pointer (some (at_ (b, 0) 0)) := hd
  have ey : a.eval (.tmp y) = .agg cur' := hy
  have hst : (storeCells (at_ (b, 0) 0) cur'.toList).run Try.prog w = .ok () w' := q1
  simp only [execOp, ho, ex, ey, Instr.storeAt, Instr.sureAddr, storeVar, Sem.run_bind, Sem.run_pure, Result.andThen_ok, run_size hi, Value.cells, hn, hin]
  simp [hst]

theorem alloc_new {a : Act} {w : World} {o : Oper} {t : TypeId} {es : List LV} {n : Nat} (ho : o.op = .alloc t) (hz : zeroE Try.prog t = some es) (hw : wOf es = some n) :
    ∃ Z : Array Value, Z.size = n ∧ (execOp a.eval o).run Try.prog w = .ok (.value (.pointer (some (at_ (w.heap.size, 0) 0)))) (pushB w (.cells Z t)) := by
  obtain ⟨i, z, hin, hzz, hoc⟩ := zeroE_cells (m := []) hz
  refine ⟨z.cells, ?_, ?_⟩
  · have := wOf_cells hw hoc
    simpa using this
  · simp [execOp, ho, Instr.alloc, zero_run hin hzz, newVar, newRow, newObj, Sem.run, pushB, at_]

theorem wp_of_ok {a : Act} {w w' : World} {o : Oper} {v : Value} {next : Act → World → Prop} {Q : Exit → Act → World → Prop} (h : (execOp a.eval o).run Try.prog w = .ok (.value v) w') (hn : next (a.put o.dst v) w') : o.wp Try.prog a w next Q := by
  unfold Oper.wp; rw [h, Oper.upon_value]; exact hn

theorem wp_of_skip {a : Act} {w w' : World} {o : Oper} {next : Act → World → Prop} {Q : Exit → Act → World → Prop} (h : (execOp a.eval o).run Try.prog w = .ok .skip w') (hn : next (a.put o.dst undef) w') : o.wp Try.prog a w next Q := by
  unfold Oper.wp; rw [h, Oper.upon_skip]; exact hn

theorem agg_inv {m : GM} {n : Nat} {l : List Int} {v : Value} (h : ResRel m [.agg [.seq (.int .u32) n l]] v) : v = .agg (u32v l) := by
  obtain ⟨cs, rfl, x, y, hcs, ⟨_, rfl⟩, rfl⟩ := h
  have : cs = u32v l := by apply Array.ext'; rw [hcs]; simp [u32v]
  rw [this]

set_option maxRecDepth 100000 in
/-- One operation of the region. -/
theorem regB_step {F : Nat} (hF : 100 ≤ F) {G : Ctx} {m : GM} {ro : Bool} {b s z : List Int} {vb : Value} {w0 : World} {a0 : Act} (hb : 64 ≤ b.length) (hs : s.length = 8) (hi : Inv G m (hB ro b s z) w0)
    (hgd : a0.defers = G.dfs) (h1 : a0.tmps.getD 1 undef = vb) (hvb : LRel m (.full 0) vb) (h2 : TVRel m (.lf (.ptr 1 0)) (a0.tmps.getD 2 undef)) (hsz : 109 ≤ a0.tmps.size) {Q : Exit → Act → World → Prop} :
    ∀ L a w i, L.size = ops94.size → PHI w0 a0 (VLb b s vb) (CLb b s) L a w → i ∈ Region.ready .any ops94 L →
      wpOp Try.prog ops94 Q i (fun a' w' => PHI w0 a0 (VLb b s vb) (CLb b s) (L.setIfInBounds i true) a' w') a w := by
  intro L a w i hL hp hr
  rw [opsB_size] at hL
  obtain ⟨hun, o, ho, hall⟩ := mem_ready.1 hr
  have hi10 : i < 10 := by rw [← opsB_size]; exact (Array.getElem?_eq_some_iff.1 ho).1
  have hunf : L.getD i false = false := by
    have : i < L.size := by omega
    simp [this] at hun ⊢; exact hun
  have hwant : ∀ y, Region.wanted (opB i) y = true := fun y => by simp [Region.wanted, gB i hi10]
  have hkeep : ∀ s', s' < 16 → s' ≠ 5 → s' ≠ 6 → s' ≠ 7 → a.tmps.getD s' undef = a0.tmps.getD s' undef := fun s' q1 q2 q3 q4 => hp.keep s' (by simp [VLb]; omega) (by simp [CLb]; omega)
  refine wpOp_of (opsB_get hi10) ?_
  rw [if_pos (hwant _)]
  have hiw := hi.ext hp.ext
  have hfzw : ∀ a cap cs, FZ.ok a cap cs → FzW (Ctx.of w fun _ => False) a cap cs := fun _ _ _ hf => FzW.sub hiw (hiw.fz _ _ _ hf) (fun _ hb => hb.elim)
  have val : ∀ p ∈ VLb b s vb, p.1 = i → (opB i).dst = some p.2.1 → ∀ w', Ext w w' → PHI w0 a0 (VLb b s vb) (CLb b s) (L.setIfInBounds i true) (a.put (opB i).dst p.2.2) w' := by
    intro p hpm hpi hpd w' e
    subst hpi
    rw [hpd]
    refine hp.value hpm (by omega) ?_ ?_ ?_ e
    · simp only [VLb, List.mem_cons, List.not_mem_nil, or_false] at hpm
      rcases hpm with rfl | rfl | rfl | rfl <;> simp only <;> omega
    · intro q hq hor
      simp only [VLb, List.mem_cons, List.not_mem_nil, or_false] at hpm hq
      rcases hpm with rfl | rfl | rfl | rfl <;> rcases hq with rfl | rfl | rfl | rfl <;> first | rfl | (simp at hor)
    · intro c hc
      simp only [VLb, List.mem_cons, List.not_mem_nil, or_false] at hpm
      simp only [CLb, List.mem_cons, List.not_mem_nil, or_false] at hc
      rcases hpm with rfl | rfl | rfl | rfl <;> rcases hc with rfl | rfl | rfl <;> simp
  have cal : ∀ c ∈ CLb b s, c.al = i → (opB i).dst = some c.dst → ∀ Z : Array Value, Z.size = c.V.size →
      PHI w0 a0 (VLb b s vb) (CLb b s) (L.setIfInBounds i true) (a.put (opB i).dst (.pointer (some (at_ (w.heap.size, 0) 0)))) (pushB w (.cells Z c.t)) := by
    intro c hc hci hcd Z hZ
    subst hci
    rw [hcd]
    refine hp.alloc hc (by omega) hunf ?_ ?_ ?_ hZ
    · simp only [CLb, List.mem_cons, List.not_mem_nil, or_false] at hc
      rcases hc with rfl | rfl | rfl <;> simp only <;> omega
    · intro q hq
      simp only [VLb, List.mem_cons, List.not_mem_nil, or_false] at hq
      simp only [CLb, List.mem_cons, List.not_mem_nil, or_false] at hc
      rcases hc with rfl | rfl | rfl <;> rcases hq with rfl | rfl | rfl | rfl <;> simp
    · intro d hd
      simp only [CLb, List.mem_cons, List.not_mem_nil, or_false] at hc hd
      rcases hc with rfl | rfl | rfl <;> rcases hd with rfl | rfl | rfl <;> simp
  have cst : ∀ c ∈ CLb b s, ∀ y n, c.st = i → waits1 i c.al = true → (opB i).dst = none → (opB i).op = .store c.t (.tmp c.dst) (.tmp y) → c.V.size = n → (∃ i, Try.prog.info? c.t = some i ∧ i.size = n) →
      a.tmps.getD y undef = .agg c.V → (∀ v ∈ c.V.toList, leafV v) → (opB i).wp Try.prog a w (fun a' w' => PHI w0 a0 (VLb b s vb) (CLb b s) (L.setIfInBounds i true) a' w') Q := by
    intro c hc y n hci hwt hdn hop hVn hin hy hlf
    subst hci
    have hal := waits1_spec hi10 hwt hr
    obtain ⟨bb, q1, q2, blk, q3, q4, q5⟩ := hp.cells c hc hal
    obtain ⟨w', r1, r2, r3⟩ := store_new (a := a) (w := w) (o := opB c.st) hop hin hVn (q4.trans hVn) q1 hy hlf q3
    refine wp_of_skip r1 ?_
    rw [hdn]
    refine hp.store hc (by omega) hal ?_ ?_ q1 r2 r3
    · intro q hq
      simp only [VLb, List.mem_cons, List.not_mem_nil, or_false] at hq
      simp only [CLb, List.mem_cons, List.not_mem_nil, or_false] at hc
      rcases hc with rfl | rfl | rfl <;> rcases hq with rfl | rfl | rfl | rfl <;> simp
    · intro d hd
      simp only [CLb, List.mem_cons, List.not_mem_nil, or_false] at hc hd
      rcases hc with rfl | rfl | rfl <;> rcases hd with rfl | rfl | rfl <;> simp
  have lf : ∀ l : List Int, ∀ v ∈ (u32v l).toList, leafV v := fun l v hv => by
    simp only [u32v] at hv; exact cvs_leaf _ _ v hv
  match i, hi10 with
  | 0, _ =>
    have hop : (opB 0).op = .call ⟨.value (.func 102), #[], #[]⟩ := by kernel_rfl
    have hc := calls_of_summ (S102_1_ok F noS (noS_sound enter102)) (vs := []) (rs := [.agg [.seq (.int .u32) 64 k64]]) (h := []) (by kernel_rfl) (m := []) (w := w) (cvs := []) (inv_nil hfzw) trivial
    have hrun : (execOp a.eval (opB 0)).run Try.prog w = .ok (.enter 102 #[]) w := by
      have hfv : a.eval (.func 102) = .func (.func 102) #[] #[] := rfl
      simp only [execOp, hop, resolve, hfv, Deferred.ofValue, Sem.run_bind, Sem.run_pure, Result.andThen_ok, invoke, Array.empty_append, Array.append_empty, Array.map_empty, enter102]
    unfold Oper.wp
    rw [hrun, Oper.upon_enter]
    refine hc.mono ?_
    rintro e w' ⟨v, t, rfl, hr2, hext⟩
    have := agg_inv hr2
    subst this
    exact val (0, 16, .agg (u32v k64)) (by simp [VLb]) rfl (by kernel_rfl) w' hext
  | 1, _ =>
    clear cal cst
    have hop : (opB 1).op = .move (.tmp 1) := by kernel_rfl
    have hv : a.eval (.tmp 1) = vb := (hkeep 1 (by omega) (by omega) (by omega) (by omega)).trans h1
    refine wp_of_ok (v := vb) (w' := w) (by simp only [execOp, hop, Sem.run_pure, hv]) ?_
    exact val (1, 17, vb) (by simp [VLb]) rfl (by kernel_rfl) w (Ext.refl w)
  | 2, _ =>
    have hop : (opB 2).op = .call ⟨.value (.func 103), #[.tmp 17], #[74]⟩ := by kernel_rfl
    have hl1 := waits1_spec (i := 2) (j := 1) (by omega) (by kernel_rfl) hr
    have h17 : a.tmps.getD 17 undef = vb := hp.vals (1, 17, vb) (by simp [VLb]) hl1
    obtain ⟨g, hg, hsl⟩ := hvb
    have hob : hget (hB ro b s z) 0 = some ⟨ro, [.seq (.int .u8) 0 b]⟩ := rfl
    have hone : Inv (Ctx.of w fun _ => False) [g] [some ⟨true, [.seq (.int .u8) 0 b]⟩] w := by
      refine ⟨rfl, fun id ob g' q1 q2 => ?_, fun id ob g' c q1 q2 q3 => ?_, fun i j oi oj gi gj b c hne q1 q2 q3 q4 => ?_, Str.refl w, Nat.le_refl _, fun _ _ _ => rfl, hfzw, fun x hx => by cases hx⟩
      · match id, q1, q2 with
        | 0, q1, q2 =>
          cases q1; cases q2
          obtain ⟨u1, cs, u2, u3⟩ := hiw.obs 0 _ g hob hg
          refine ⟨u1, cs, ?_, ?_⟩
          · obtain ⟨x, y, rfl, hx, hy⟩ := u2
            exact ⟨x, y, rfl, hx, hy⟩
          · rcases u3 with u3 | ⟨c, blk, t, fr, v1, v2, v3, v4, v5, v6⟩
            · exact .inl u3
            · exact .inr ⟨c, blk, t, fr, v1, v2, v3, v4, v5, fun h => by cases h⟩
        | _ + 1, q1, _ => simp [hget] at q1
      · match id, q1, q2 with
        | 0, q1, q2 =>
          cases q1; cases q2
          exact ⟨fun h => h, hiw.block_lt hob hg q3, trivial⟩
        | _ + 1, q1, _ => simp [hget] at q1
      · match i, j, q1, q2 with
        | 0, 0, _, _ => exact (hne rfl).elim
        | 0, _ + 1, _, q2 => simp [hget] at q2
        | _ + 1, _, q1, _ => simp [hget] at q1
    have hx : TVs [g] [.lf (.full 0)] [vb] := by
      refine ⟨⟨g, rfl, ?_⟩, trivial⟩
      obtain ⟨g', A, c, u1, u2⟩ := hsl
      rw [hg] at u1; cases u1
      exact ⟨g, A, c, rfl, u2⟩
    have hF' : f103_1 F b (fun l => (some ([TV.agg [LV.seq (.int .u32) 64 l]], []) : Option Res)) = some ([TV.agg [LV.seq (.int .u32) 64 (wds b)]], []) := spreadP hF hb
    have hS : S103_1 F noS [.lf (.full 0)] [some ⟨true, [.seq (.int .u8) 0 b]⟩] (fun rs _ => some (rs, [])) = some ([.agg [.seq (.int .u32) 64 (wds b)]], []) := Eq.trans (by kernel_rfl) hF'
    have hc := calls_of_summ (S103_1_ok F noS (noS_sound enter103)) hS hone hx
    have hrun : (execOp a.eval (opB 2)).run Try.prog w = .ok (.enter 103 #[vb]) w := by
      have hfv : a.eval (.func 103) = .func (.func 103) #[] #[] := rfl
      have hav : a.eval (.tmp 17) = vb := h17
      simp only [execOp, hop, resolve, hfv, Deferred.ofValue, Sem.run_bind, Sem.run_pure, Result.andThen_ok, invoke, Array.empty_append, Array.append_empty, List.map_toArray, List.map_cons, List.map_nil, hav, enter103]
    unfold Oper.wp
    rw [hrun, Oper.upon_enter]
    refine hc.mono ?_
    rintro e w' ⟨v, t, rfl, hr2, hext⟩
    have := agg_inv hr2
    subst this
    exact val (2, 18, .agg (u32v (wds b))) (by simp [VLb]) rfl (by kernel_rfl) w' hext
  | 3, _ =>
    have hop : (opB 3).op = .load 107 (.tmp 2) := by kernel_rfl
    have he : ERel G m (mkEnv 109 [2] [.tv (.lf (.ptr 1 0))]) a := mkEnv_rel (by rw [hp.len]; exact hsz) (hp.dfr.trans hgd) [2] _ ⟨.inr (by
      rw [hkeep 2 (by omega) (by omega) (by omega) (by omega)]; exact h2), trivial⟩
    obtain ⟨av, v, q1, q2, q3⟩ := evPure_sound (P := Try.prog) (o := opB 3) (K := fun av => match av with | .tv v => some ([v], []) | _ => none) (r := ([.agg [.seq (.int .u32) 8 s]], [])) hiw he (by kernel_rfl)
    have hav : av = .tv (.agg [.seq (.int .u32) 8 s]) := by
      cases av with
      | tv v => simp only [Option.some.injEq, Prod.mk.injEq, List.cons.injEq, and_true] at q1; rw [q1]
      | tup l => cases q1
    subst hav
    obtain ⟨cs, rfl, x, y, hcs, ⟨_, rfl⟩, rfl⟩ := q2
    have : cs = u32v s := by apply Array.ext'; rw [hcs]; simp [u32v]
    subst this
    refine wp_of_ok (q3 w (.inr (Ext.refl w))) ?_
    exact val (3, 19, .agg (u32v s)) (by simp [VLb]) rfl (by kernel_rfl) w (Ext.refl w)
  | 4, _ =>
    have hop : (opB 4).op = .alloc 116 := by kernel_rfl
    obtain ⟨Z, hZ, hrun⟩ := alloc_new (a := a) (w := w) hop (show zeroE Try.prog 116 = some [.seq (.int .u32) 64 (List.replicate 64 0)] by kernel_rfl) (n := 64) (by kernel_rfl)
    exact wp_of_ok hrun (cal ⟨4, 7, 5, 116, u32v k64⟩ (by simp [CLb]) rfl (by kernel_rfl) Z (by rw [hZ, u32v_size]; rfl))
  | 5, _ =>
    have hop : (opB 5).op = .alloc 116 := by kernel_rfl
    obtain ⟨Z, hZ, hrun⟩ := alloc_new (a := a) (w := w) hop (show zeroE Try.prog 116 = some [.seq (.int .u32) 64 (List.replicate 64 0)] by kernel_rfl) (n := 64) (by kernel_rfl)
    exact wp_of_ok hrun (cal ⟨5, 8, 6, 116, u32v (wds b)⟩ (by simp [CLb]) rfl (by kernel_rfl) Z (by rw [hZ, u32v_size, wds_len]))
  | 6, _ =>
    have hop : (opB 6).op = .alloc 107 := by kernel_rfl
    obtain ⟨Z, hZ, hrun⟩ := alloc_new (a := a) (w := w) hop (show zeroE Try.prog 107 = some [.seq (.int .u32) 8 (List.replicate 8 0)] by kernel_rfl) (n := 8) (by kernel_rfl)
    exact wp_of_ok hrun (cal ⟨6, 9, 7, 107, u32v s⟩ (by simp [CLb]) rfl (by kernel_rfl) Z (by rw [hZ, u32v_size, hs]))
  | 7, _ =>
    have hl := waits1_spec (i := 7) (j := 0) (by omega) (by kernel_rfl) hr
    exact cst ⟨4, 7, 5, 116, u32v k64⟩ (by simp [CLb]) 16 64 rfl (by kernel_rfl) (by kernel_rfl) (by kernel_rfl) (by rw [u32v_size]; rfl) ⟨(Try.prog.info? 116).getD default, by kernel_rfl, by kernel_rfl⟩
      (hp.vals (0, 16, .agg (u32v k64)) (by simp [VLb]) hl) (lf _)
  | 8, _ =>
    have hl := waits1_spec (i := 8) (j := 2) (by omega) (by kernel_rfl) hr
    exact cst ⟨5, 8, 6, 116, u32v (wds b)⟩ (by simp [CLb]) 18 64 rfl (by kernel_rfl) (by kernel_rfl) (by kernel_rfl) (by rw [u32v_size, wds_len]) ⟨(Try.prog.info? 116).getD default, by kernel_rfl, by kernel_rfl⟩
      (hp.vals (2, 18, .agg (u32v (wds b))) (by simp [VLb]) hl) (lf _)
  | 9, _ =>
    have hl := waits1_spec (i := 9) (j := 3) (by omega) (by kernel_rfl) hr
    exact cst ⟨6, 9, 7, 107, u32v s⟩ (by simp [CLb]) 19 8 rfl (by kernel_rfl) (by kernel_rfl) (by kernel_rfl) (by rw [u32v_size, hs]) ⟨(Try.prog.info? 107).getD default, by kernel_rfl, by kernel_rfl⟩
      (hp.vals (3, 19, .agg (u32v s)) (by simp [VLb]) hl) (lf _)

theorem pt_inj {x b : Nat} (h : (Value.pointer (some (at_ (x, 0) 0))) = .pointer (some (at_ (b, 0) 0))) : x = b := by
  injection h with h; injection h with h; simp only [at_, Addr.mk.injEq] at h; exact h.1

/-- One more object, whose block is no other one's. -/
theorem add_block {G : Ctx} {m : GM} {h : Heap} {w w0 : World} (hi : Inv G m h w) (hw : G.w0.heap.size ≤ w0.heap.size) {es : List LV} {V : Array Value} {t : TypeId} {nb : Nat} (hnb : w0.heap.size ≤ nb) (hg : w.heap[nb]? = some (.cells V t (0, 0)))
    (ho : OCells m es V.toList) (hd : ∀ (j : Nat) oj gj c, hget h j = some oj → oj.ro = false → m[j]? = some gj → gj.addr = some c → c.1 ≠ nb) :
    Inv G (m ++ [ghOf (some (nb, 0)) V.size es]) (h ++ [some ⟨false, es⟩]) w := by
  refine hi.add ⟨ghOf_seq _ _ _, V.toList, ho.mono (pre_append m _), .inr ⟨_, V, t, (0, 0), rfl, hg, rfl, by simp [ghOf], fun j hj => by simp, fun _ => .inl rfl⟩⟩ (fun b hb => ?_) (fun _ b hb j oj gj c hj hro hgj hc => ?_)
  · cases hb; exact .inr (Nat.le_trans hw hnb)
  · cases hb; exact hd j oj gj c hj hro hgj hc

set_option maxRecDepth 100000 in
/-- The region, whatever order is picked. -/
theorem regB_wp {F : Nat} (hF : 100 ≤ F) {G : Ctx} {m : GM} {ro : Bool} {b s z : List Int} {w : World} {a : Act} (hb : 64 ≤ b.length) (hs : s.length = 8) (hi : Inv G m (hB ro b s z) w)
    (hvb : LRel m (.full 0) (a.tmps.getD 1 undef)) (h2 : TVRel m (.lf (.ptr 1 0)) (a.tmps.getD 2 undef)) (h4 : TVRel m (.lf (.ptr 2 0)) (a.tmps.getD 4 undef)) (hsz : 109 ≤ a.tmps.size) (hgd : a.defers = G.dfs) {id : Nat}
    {Q : Exit → Act → World → Prop}
    (hq : ∀ m' a' w', Inv G m' (hB ro b s z ++ [some ⟨false, [.seq (.int .u32) 64 k64]⟩] ++ [some ⟨false, [.seq (.int .u32) 64 (wds b)]⟩] ++ [some ⟨false, [.seq (.int .u32) 8 s]⟩]) w' → Pre m m' →
      SlotsRel m' a' [2, 4, 5, 6, 7] [.tv (.lf (.ptr 1 0)), .tv (.lf (.ptr 2 0)), .tv (.lf (.ptr 3 0)), .tv (.lf (.ptr 4 0)), .tv (.lf (.ptr 5 0))] → 109 ≤ a'.tmps.size → a'.defers = G.dfs → Q .normal a' w') :
    (Code.region id ops94 true).wp Try.prog Q a w := by
  refine wp_region_any (by kernel_rfl) ?_
  have hi' := hi.ext (Ext.drew w)
  refine wpAny_inv (PHI { w with drawn := w.drawn + 1 } a (VLb b s (a.tmps.getD 1 undef)) (CLb b s)) opsB_back (regB_step hF hb hs hi' hgd rfl hvb h2 hsz) ?_ _ _ _ _ (by simp) (by rw [unl_none _ _ (Nat.le_refl _)]; exact Nat.le_refl _) ?_
  · intro L a' w' hL hp hall
    rw [opsB_size] at hL hall
    have hLt : ∀ j, j < 10 → L.getD j false = true := fun j hj => by
      have := hall j hj
      have hj2 : j < L.size := by omega
      simp [hj2] at this ⊢; exact this
    have hm3 : m.length = 3 := hi.len
    have hiw := hi'.ext hp.ext
    obtain ⟨b5, p5, n5, blk5, c5, z5, v5⟩ := hp.cells ⟨4, 7, 5, 116, u32v k64⟩ (by simp [CLb]) (hLt 4 (by omega))
    obtain ⟨b6, p6, n6, blk6, c6, z6, v6⟩ := hp.cells ⟨5, 8, 6, 116, u32v (wds b)⟩ (by simp [CLb]) (hLt 5 (by omega))
    obtain ⟨b7, p7, n7, blk7, c7, z7, v7⟩ := hp.cells ⟨6, 9, 7, 107, u32v s⟩ (by simp [CLb]) (hLt 6 (by omega))
    have q56 := hp.dist ⟨4, 7, 5, 116, u32v k64⟩ (by simp [CLb]) ⟨5, 8, 6, 116, u32v (wds b)⟩ (by simp [CLb]) (by simp) (hLt 4 (by omega)) (hLt 5 (by omega)) b5 b6 p5 p6
    have q57 := hp.dist ⟨4, 7, 5, 116, u32v k64⟩ (by simp [CLb]) ⟨6, 9, 7, 107, u32v s⟩ (by simp [CLb]) (by simp) (hLt 4 (by omega)) (hLt 6 (by omega)) b5 b7 p5 p7
    have q67 := hp.dist ⟨5, 8, 6, 116, u32v (wds b)⟩ (by simp [CLb]) ⟨6, 9, 7, 107, u32v s⟩ (by simp [CLb]) (by simp) (hLt 5 (by omega)) (hLt 6 (by omega)) b6 b7 p6 p7
    rw [v5 (hLt 7 (by omega))] at c5
    rw [v6 (hLt 8 (by omega))] at c6
    rw [v7 (hLt 9 (by omega))] at c7
    have hG : G.w0.heap.size ≤ ({ w with drawn := w.drawn + 1 } : World).heap.size := hi'.size
    have old : ∀ (j : Nat) oj gj c, hget (hB ro b s z) j = some oj → m[j]? = some gj → gj.addr = some c → c.1 < ({ w with drawn := w.drawn + 1 } : World).heap.size := fun j oj gj c q1 q2 q3 => hi'.block_lt q1 q2 q3
    have oc : ∀ (m : GM) (k : Nat) (l : List Int), (k = 0 ∨ l.length = k) → OCells m [.seq (.int .u32) k l] (u32v l).toList := fun m k l hk => ⟨cvs (.int .u32) l, [], by simp, ⟨hk, rfl⟩, rfl⟩
    have i1 := add_block hiw hG n5 c5 (oc m 64 k64 (.inr rfl)) (fun j oj gj c q1 q2 q3 q4 => Nat.ne_of_lt (Nat.lt_of_lt_of_le (old j oj gj c q1 q3 q4) n5))
    have i2 := add_block i1 hG n6 c6 (oc _ 64 (wds b) (.inr (wds_len b))) (fun j oj gj c q1 q2 q3 q4 => by
      rcases hget_app q1 with ⟨hj, q1⟩ | ⟨hj, _⟩
      · exact Nat.ne_of_lt (Nat.lt_of_lt_of_le (old j oj gj c q1 (gm_app_old (by rw [hm3]; exact hj) q3) q4) n6)
      · subst hj
        have : (m ++ [ghOf (some (b5, 0)) (u32v k64).size [.seq (.int .u32) 64 k64]])[(hB ro b s z).length]? = some (ghOf (some (b5, 0)) (u32v k64).size [.seq (.int .u32) 64 k64]) := by
          rw [show (hB ro b s z).length = m.length from hm3.symm]; exact gm_app_new
        rw [this] at q3; cases q3; cases q4; exact q56)
    have i3 := add_block i2 hG n7 c7 (oc _ 8 s (.inr hs)) (fun j oj gj c q1 q2 q3 q4 => by
      rcases hget_app q1 with ⟨hj, q1⟩ | ⟨hj, _⟩
      · have q3 := gm_app_old (by rw [List.length_append, hm3]; exact hj) q3
        rcases hget_app q1 with ⟨hj, q1⟩ | ⟨hj, _⟩
        · exact Nat.ne_of_lt (Nat.lt_of_lt_of_le (old j oj gj c q1 (gm_app_old (by rw [hm3]; exact hj) q3) q4) n7)
        · subst hj
          have : (m ++ [ghOf (some (b5, 0)) (u32v k64).size [.seq (.int .u32) 64 k64]])[(hB ro b s z).length]? = some (ghOf (some (b5, 0)) (u32v k64).size [.seq (.int .u32) 64 k64]) := by
            rw [show (hB ro b s z).length = m.length from hm3.symm]; exact gm_app_new
          rw [this] at q3; cases q3; cases q4; exact q57
      · subst hj
        have : ((m ++ [ghOf (some (b5, 0)) (u32v k64).size [.seq (.int .u32) 64 k64]]) ++ [ghOf (some (b6, 0)) (u32v (wds b)).size [.seq (.int .u32) 64 (wds b)]])[(hB ro b s z ++ [some (⟨false, [.seq (.int .u32) 64 k64]⟩ : Ob)]).length]? = some (ghOf (some (b6, 0)) (u32v (wds b)).size [.seq (.int .u32) 64 (wds b)]) := by
          rw [show (hB ro b s z ++ [some (⟨false, [.seq (.int .u32) 64 k64]⟩ : Ob)]).length = (m ++ [ghOf (some (b5, 0)) (u32v k64).size [.seq (.int .u32) 64 k64]]).length by simp [hm3, hB]]; exact gm_app_new
        rw [this] at q3; cases q3; cases q4; exact q67)
    have k2 : a'.tmps.getD 2 undef = a.tmps.getD 2 undef := hp.keep 2 (by simp [VLb]) (by simp [CLb])
    have k4 : a'.tmps.getD 4 undef = a.tmps.getD 4 undef := hp.keep 4 (by simp [VLb]) (by simp [CLb])
    refine hq _ a' w' i3 (((pre_append _ _).trans (pre_append _ _)).trans (pre_append _ _)) ?_ (by rw [hp.len]; exact hsz) (hp.dfr.trans hgd)
    refine ⟨.inr ?_, .inr ?_, .inr ?_, .inr ?_, .inr ?_, trivial⟩
    · rw [k2]; exact TVRel.mono (((pre_append _ _).trans (pre_append _ _)).trans (pre_append _ _)) h2
    · rw [k4]; exact TVRel.mono (((pre_append _ _).trans (pre_append _ _)).trans (pre_append _ _)) h4
    · exact ⟨_, _, by rw [List.append_assoc, List.append_assoc, List.getElem?_append_right (by omega), hm3]; rfl, rfl, p5⟩
    · exact ⟨_, _, by rw [List.append_assoc, List.append_assoc, List.getElem?_append_right (by omega), hm3]; rfl, rfl, p6⟩
    · exact ⟨_, _, by rw [List.append_assoc, List.append_assoc, List.getElem?_append_right (by omega), hm3]; rfl, rfl, p7⟩
  · have hnone : ∀ j, (Array.replicate ops94.size false).getD j false = false := fun j => by
      simp only [Array.getD_eq_getD_getElem?, Array.getElem?_replicate]; split <;> rfl
    refine ⟨Ext.refl _, rfl, rfl, fun _ _ _ => rfl, fun p _ hl => ?_, fun c _ hl => ?_, fun c _ hl => ?_, fun c _ d _ _ hl => ?_⟩ <;> (rw [hnone] at hl; cases hl)


/-- A block behind the numbers: as the code reckons it. -/
noncomputable def f94_1 {β : Type} (F : Nat) (a1 : List Int) (a2 : List Int) (K0 : List Int → Option β) : Option β :=
  cond (decide (100 ≤ F ∧ 64 ≤ a2.length)) (f94_0 F a2 a1 [0, 0, 0, 0, 0, 0, 0, 0] k64 (wds a2) a1 K0) none
def sh94_1 : Sh := ⟨[.agg [.seq (.int .u32) 8], .lf (.full 0)], [some ⟨none, [.seq (.int .u8) 0]⟩]⟩
noncomputable def S94_1 (F : Nat) (o : Summ) : Summ := mkS sh94_1 (fun d K => f94_1 F d.1.1.1 d.2.1.2.1 (fun (y0 : List Int) => K [.agg [.seq (.int .u32) 8 y0]] [some ⟨d.2.1.1, [.seq (.int .u8) 0 d.2.1.2.1]⟩])) o

noncomputable def ops0B : Array Oper := match cL code94 with | .region _ ops _ => ops | _ => #[]
theorem codeB : code94 = .seq (.region 0 ops0B false) (.seq (.region 1 ops94 true) rest94) := by kernel_rfl

def envB (s : List Int) : Env := eset (eset (argEnv 109 [.agg [.seq (.int .u32) 8 s], .lf (.full 0)]) 2 (.tv (.lf (.ptr 1 0)))) 4 (.tv (.lf (.ptr 2 0)))

set_option maxRecDepth 100000 in
theorem reg0B (F : Nat) (ro : Bool) (b s : List Int) (K0 : Xt → Env → Heap → Option Res) :
    evC Try.prog (T94_0 F) (xw []) 109 1 (LT94_0 F) (.region 0 ops0B false) (argEnv 109 [.agg [.seq (.int .u32) 8 s], .lf (.full 0)]) [some ⟨ro, [.seq (.int .u8) 0 b]⟩] K0 = K0 .normal (envB s) (hB ro b s [0, 0, 0, 0, 0, 0, 0, 0]) := by kernel_rfl

theorem ntB : Try.f94.ntmps = 109 := by kernel_rfl
theorem scB : scopesOf rest94 = [] := by kernel_rfl
theorem rgB : rangesOf rest94 = [] := by kernel_rfl

set_option maxRecDepth 100000 in
theorem blkB {F : Nat} (hF : 100 ≤ F) {ro : Bool} {b s : List Int} (hb : 64 ≤ b.length) {K : KF} {r : Res}
    (he : f94_0 F b s [0, 0, 0, 0, 0, 0, 0, 0] k64 (wds b) s (fun (y0 : List Int) => K [.agg [.seq (.int .u32) 8 y0]] [some ⟨ro, [.seq (.int .u8) 0 b]⟩]) = some r) :
    Contract Try.prog 94 [.agg [.seq (.int .u32) 8 s], .lf (.full 0)] [some ⟨ro, [.seq (.int .u8) 0 b]⟩] K r := by
  intro G m w cvs hw hgd hgh hi hx
  have hT := tabled94 F
  have hm : Try.prog.follows .mixedOrders = true := by kernel_rfl
  obtain ⟨hs, hv1⟩ : s.length = 8 ∧ True := by
    match cvs, hx with
    | v :: _, ⟨⟨cs, _, x, y, _, ⟨hl, _⟩, _⟩, _⟩ => exact ⟨hl.resolve_left (by omega), trivial⟩
  have hlm : m.length = 1 := hi.len
  have hst : Std Try.prog (xw []) 1 m G := ⟨fun y hy => (by cases hy), fun x hx => (by rw [hgh] at hx; cases hx), fun _ => hgh⟩
  refine (callsIn_wide (n := 0)).1 (callsIn_of_wp_marks (fn := Try.f94) (c := code94) (by kernel_rfl) (by kernel_rfl) trivial ?_)
  rw [codeB]
  have he0 : ERel G m (argEnv 109 [.agg [.seq (.int .u32) 8 s], .lf (.full 0)]) { tmps := cvs.toArray ++ Array.replicate (109 - cvs.toArray.size) undef, defers := [] } := argEnv_rel hx hgd
  rw [ntB]
  have hl0 : LoopsOK Try.prog (T94_0 F) (xw []) 109 1 (LT94_0 F) (loopsOf (.region 0 ops0B false)) := loopsOK_nil
  refine wpIn_seq (evC_wp (ro := none) (n := 0) (m0 := m) (r := ([], [])) (X := xw []) (fun _ => rfl) (fun _ => rfl) hm hT (.region 0 ops0B false) hl0 scopesOK_nil rangesOK_nil (K := fun e env' h' => @ite _ (e = .normal ∧ env' = envB s ∧ h' = hB ro b s [0, 0, 0, 0, 0, 0, 0, 0]) (Classical.propDecidable _) (some ([], [])) none) hst (Pin.refl (Nat.le_of_eq hlm.symm)) hi he0 (by rw [reg0B, if_pos ⟨rfl, rfl, rfl⟩]) ?_)
  intro G1 hG1 e1 env1 h1 m1 a1 w1 hk1 hi1 hp1 he1
  obtain ⟨rfl, rfl, rfl⟩ : e1 = .normal ∧ env1 = envB s ∧ h1 = hB ro b s [0, 0, 0, 0, 0, 0, 0, 0] := by
    by_cases hq : e1 = .normal ∧ env1 = envB s ∧ h1 = hB ro b s [0, 0, 0, 0, 0, 0, 0, 0]
    · exact hq
    · simp only [if_neg hq] at hk1; cases hk1
  have hG1' : SubR G G1 := by
    rcases hG1 with rfl | ⟨_, h0⟩
    · exact SubR.refl _
    · exact h0
  have hst1 := hst.sub hG1
  have hp0 : Pin 1 m m1 := hp1
  have g1 : LRel m1 (.full 0) (a1.tmps.getD 1 undef) := by
    rcases he1.val 1 with h0 | h0
    · exact h0.elim
    · exact h0
  have g2 : TVRel m1 (.lf (.ptr 1 0)) (a1.tmps.getD 2 undef) := by
    rcases he1.val 2 with h0 | h0
    · exact h0.elim
    · exact h0
  have g4 : TVRel m1 (.lf (.ptr 2 0)) (a1.tmps.getD 4 undef) := by
    rcases he1.val 4 with h0 | h0
    · exact h0.elim
    · exact h0
  refine wpIn_seq (wpIn_wide.2 (regB_wp hF hb hs hi1 g1 g2 g4 he1.len he1.dfr ?_))
  intro m2 a2 w2 hi2 hp2 hsl hsz2 hdf2
  have hlm2 : 1 ≤ m2.length := by rw [hi2.len]; simp [hB]
  have hpm2 : Pin 1 m m2 := hp0.trans (Pin.of_pre hp1.1 hp2)
  generalize wds b = W at he hi2
  generalize k64 = KK at he hi2
  have hheap : (hB ro b s [0, 0, 0, 0, 0, 0, 0, 0] ++ [some (⟨false, [.seq (.int .u32) 64 KK]⟩ : Ob)] ++ [some ⟨false, [.seq (.int .u32) 64 W]⟩] ++ [some ⟨false, [.seq (.int .u32) 8 s]⟩]) =
    encH sh94_0.h ((ro, b, ()), ((), s, ()), ((), [0, 0, 0, 0, 0, 0, 0, 0], ()), ((), KK, ()), ((), W, ()), ((), s, ()), ()) := by kernel_rfl
  rw [hheap] at hi2
  have hev := (E94_0 F ((), ((ro, b, ()), ((), s, ()), ((), [0, 0, 0, 0, 0, 0, 0, 0], ()), ((), KK, ()), ((), W, ()), ((), s, ()), ())) K).trans he
  have hl : LoopsOK Try.prog (T94_0 F) (xw []) 109 1 (LT94_0 F) (loopsOf rest94) := by
    have := looped94 F
    rw [codeB] at this
    exact this
  refine evC_wp (ro := none) (n := 0) (fun _ => rfl) (fun _ => rfl) hm hT rest94 hl (by rw [scB]; exact scopesOK_nil) (by rw [rgB]; exact rangesOK_nil) hst1 hpm2 hi2 (mkEnv_rel hsz2 hdf2 _ _ hsl) hev ?_
  intro G2 hG2 e env' h' m' a' w' hK hi' hp he'
  have hsub : SubR G G2 := hG1'.trans (by
    rcases hG2 with rfl | ⟨_, h0⟩
    · exact SubR.refl _
    · exact h0)
  have hpin : Pin 1 m m' := hpm2.trans hp
  have fin : ∀ {q : Option (List TV)}, resVals Try.prog env' h' Try.f94.results.toList = q → (match q with | some vs => normF 1 [] vs h' K | none => none) = some r →
      LeavesInM Fence.wide 0 Try.prog Try.f94 a'.tmps (fun e w' => ∃ rs h', K rs h' = some r ∧ ∃ v' t, e = .returned v' ∧ ResRel (m ++ t) rs v' ∧ Inv G (m ++ t) h' w') a'.defers .returning w' := by
    intro q hq hk
    cases q with
    | none => cases hk
    | some vs1 =>
      rw [he'.dfr]
      refine leaves_marks hgh (fun w2 hi2 => ?_) G2.dfs w' (hsub.inv hi') G2.nd fun d hd => ?_
      · obtain ⟨xs1, h1, h2⟩ := results_of (fn := Try.f94) hi2 he' hq
        refine ⟨_, h2, ?_⟩
        simp only [normF_eq] at hk
        obtain ⟨rs, h3, m3, q1, q2, q3, q4, q5⟩ := normVs_sound hi2 hpin.1 (by rw [hgh]; intro x hx; cases hx) h1 hk
        have hpre : m3 = m ++ m3.drop 1 := by
          apply List.ext_getElem?
          intro i
          by_cases hlt : i < 1
          · rw [List.getElem?_append_left (by omega), q5 i hlt, hpin.2 i hlt]
          · rw [List.getElem?_append_right (by omega), List.getElem?_drop, hlm]
            congr 1; omega
        refine ⟨rs, h3, q1, _, m3.drop 1, rfl, ?_, ?_⟩
        · rw [← hpre]; exact resRel_of q3
        · rw [← hpre]; exact q2
      · obtain ⟨D, rfl, hD, hO⟩ := G2.hd d hd
        refine ⟨D, rfl, ?_, ?_⟩
        · rw [hi'.frame D (Array.getElem?_eq_some_iff.1 hD).1 hO]; exact hD
        · rcases hsub.dfs _ hd with h0 | ⟨D', h0, h1⟩
          · rw [hgd] at h0; cases h0
          · injection h0 with h0 _
            injection h0 with h0
            rw [h0]; exact h1
  cases e with
  | normal => exact fin rfl hK
  | ret => exact fin rfl hK
  | exit i => cases hK
  | goto i => cases hK

theorem S94_1_ok (F : Nat) (o : Summ) (ho : SoundFn Try.prog 94 o) : SoundFn Try.prog 94 (S94_1 F o) := by
  refine ⟨ho.enter, fun vs h K r he => ?_⟩
  unfold S94_1 mkS at he
  split at he
  rotate_left
  · exact ho.ok vs h K r he
  rename_i dv dh ha hb'
  have e1 := decT_enc _ _ _ ha
  have e2 := decH_enc _ _ _ hb'
  obtain ⟨⟨s, _⟩, _, _⟩ := dv
  obtain ⟨⟨ro, b, _⟩, _⟩ := dh
  have e1 : vs = [.agg [.seq (.int .u32) 8 s], .lf (.full 0)] := e1
  have e2 : h = [some ⟨ro, [.seq (.int .u8) 0 b]⟩] := e2
  subst e1
  subst e2
  have he : f94_1 F s b (fun (y0 : List Int) => K [.agg [.seq (.int .u32) 8 y0]] [some ⟨ro, [.seq (.int .u8) 0 b]⟩]) = some r := he
  unfold f94_1 at he
  obtain ⟨⟨hF, hb⟩, he⟩ := dec_of he
  exact blkB hF hb he

end Go.Proofs.Ytlokielmpdjedaa.X
end

section
namespace Go.Proofs.Ytlokielmpdjedaa.X
open Go Go.Proofs.Ytlokielmpdjedaa.Ev Go.Proofs
set_option linter.unusedVariables false
set_option linter.unusedSectionVars false
/-! sha.Hash).Write -/
noncomputable def f74_1_l3 {β : Type} (F : Nat) (v2 : Int) (v3 : List Int) (K0 : List Int → List Int → Option β) : Nat → List Int → List Int → Option β
  | 0, _, _ => none
  | k + 1, v1, v4 => cond (decide (((v4.length : Nat) : Int) ≥ 64)) (cond (decide ((0 : Int) ≤ (0 : Int) ∧ (0 : Int) ≤ (64 : Int) ∧ (64 : Int) ≤ ((v4.length : Nat) : Int))) (f94_1 F v1 ((v4.drop 0).take 64) (fun x5 => cond (decide ((0 : Int) ≤ (64 : Int) ∧ (64 : Int) ≤ ((v4.length : Nat) : Int) ∧ ((v4.length : Nat) : Int) ≤ ((v4.length : Nat) : Int))) (cond (decide ((0 + (((v4.drop 64).take ((((v4.length : Nat) : Int) - 64).toNat)).length)) * 1 ≤ 70368744177664)) (f74_1_l3 F v2 v3 K0 k x5 ([] ++ ((v4.drop 64).take ((((v4.length : Nat) : Int) - 64).toNat)))) none) none) ) none) (K0 v1 v4)
noncomputable def f74_1 {β : Type} (F : Nat) (a1 : List Int) (a2 : Int) (a3 : List Int) (a4 : List Int) (K0 : List Int → Int → List Int → Option β) : Option β := cond (decide ((a3.length + a4.length) * 1 ≤ 70368744177664)) (f74_1_l3 F (IntKind.u64.wrap (a2 + (IntKind.u64.wrap ((a4.length : Nat) : Int)))) a4 (fun x6 x7 => K0 x6 (IntKind.u64.wrap (a2 + (IntKind.u64.wrap ((a4.length : Nat) : Int)))) x7) F a1 (a3 ++ a4)) none
variable [FZ]
def sh74_1 : Sh := ⟨[.lf (.ptr 0 0), .lf (.full 2)], [some ⟨some false, [.seq (.int .u32) 8, .full 1, .int .u64]⟩, some ⟨some false, [.seq (.int .u8) 0]⟩, some ⟨none, [.seq (.int .u8) 0]⟩]⟩
noncomputable def S74_1 (F : Nat) (o : Summ) : Summ := mkS sh74_1 (fun d K => f74_1 F d.2.1.2.1 d.2.1.2.2.2.1 d.2.2.1.2.1 d.2.2.2.1.2.1 (fun (y0 : List Int) (y1 : Int) (y3 : List Int) => K [] [some ⟨false, [.seq (.int .u32) 8 y0, .full 3, .int .u64 y1]⟩, none, some ⟨d.2.2.2.1.1, [.seq (.int .u8) 0 d.2.2.2.1.2.1]⟩, some ⟨false, [.seq (.int .u8) 0 y3]⟩])) o
noncomputable def code74 : Code := bodyOf Try.f74
noncomputable def b74_0 : Code := cB (cB (cR (cR (cR (code74)))))
theorem scopes74 : scopesOf code74 = [] := by kernel_rfl
theorem ranges74 : rangesOf code74 = [] := by kernel_rfl
theorem loops74 : loopsOf code74 = [b74_0] := by kernel_rfl
theorem enter74 : ∀ args w, (callFunc 74 args).run Try.prog w = .ok (.enter 74 args) w := enter_of (fn := Try.f74) (by kernel_rfl) (by kernel_rfl) (by kernel_rfl)
noncomputable def T74_1 (F : Nat) : FuncId → Option Summ := tab [(94, (S94_1 F noS))]
def sh74_1_l3 : Sh := ⟨[.lf (.ptr 0 0)], [some ⟨some false, [.seq (.int .u32) 8, .full 3, .int .u64]⟩, none, some ⟨none, [.seq (.int .u8) 0]⟩, some ⟨some false, [.seq (.int .u8) 0]⟩]⟩
noncomputable def G74_1_3 (F k : Nat) : LoopS := mkG sh74_1_l3 [0] (outT [(.exit 0, [])]) (fun d K => f74_1_l3 F d.2.1.2.2.2.1 d.2.2.2.1.2.1 (fun (y0 : List Int) (y3 : List Int) => K (.exit 0) [] [some ⟨false, [.seq (.int .u32) 8 y0, .full 3, .int .u64 d.2.1.2.2.2.1]⟩, none, some ⟨d.2.2.2.1.1, [.seq (.int .u8) 0 d.2.2.2.1.2.1]⟩, some ⟨false, [.seq (.int .u8) 0 y3]⟩]) k d.2.1.2.1 d.2.2.2.2.1.2.1) []
noncomputable def LT74_1 (F : Nat) : Nat → Option LoopS := ltab [(3, G74_1_3 F F)]
theorem L74_1_l3g (F k : Nat) (c94_1 : List Int → List Int → (List Int → Option Res) → Option Res)  (l3 : Int → List Int → (List Int → List Int → Option Res) → Nat → List Int → List Int → Option Res) (X3 : LoopS) (d : sh74_1_l3.den) (K : KL) : (fun (v2 : Int) (v3 : List Int) (K0 : (List Int → List Int → Option Res)) (k : Nat) (v1 : List Int) (v4 : List Int) => cond (decide (((v4.length : Nat) : Int) ≥ 64)) (cond (decide ((0 : Int) ≤ (0 : Int) ∧ (0 : Int) ≤ (64 : Int) ∧ (64 : Int) ≤ ((v4.length : Nat) : Int))) (c94_1 v1 ((v4.drop 0).take 64) (fun x5 => cond (decide ((0 : Int) ≤ (64 : Int) ∧ (64 : Int) ≤ ((v4.length : Nat) : Int) ∧ ((v4.length : Nat) : Int) ≤ ((v4.length : Nat) : Int))) (cond (decide ((0 + (((v4.drop 64).take ((((v4.length : Nat) : Int) - 64).toNat)).length)) * 1 ≤ 70368744177664)) (l3 v2 v3 K0 k x5 ([] ++ ((v4.drop 64).take ((((v4.length : Nat) : Int) - 64).toNat)))) none) none) ) none) (K0 v1 v4)) d.2.1.2.2.2.1 d.2.2.2.1.2.1 (fun (y0 : List Int) (y3 : List Int) => K (.exit 0) [] [some ⟨false, [.seq (.int .u32) 8 y0, .full 3, .int .u64 d.2.1.2.2.2.1]⟩, none, some ⟨d.2.2.2.1.1, [.seq (.int .u8) 0 d.2.2.2.1.2.1]⟩, some ⟨false, [.seq (.int .u8) 0 y3]⟩]) k d.2.1.2.1 d.2.2.2.2.1.2.1 = roundOf Try.prog (tab [(94, (mkS sh94_1 (fun d K => c94_1 d.1.1.1 d.2.1.2.1 (fun (y0 : List Int) => K [.agg [.seq (.int .u32) 8 y0]] [some ⟨d.2.1.1, [.seq (.int .u8) 0 d.2.1.2.1]⟩])) noS))]) (xw []) 54 3 (ltab [(3, X3)]) (mkG sh74_1_l3 [0] (outT [(.exit 0, [])]) (fun d K => l3 d.2.1.2.2.2.1 d.2.2.2.1.2.1 (fun (y0 : List Int) (y3 : List Int) => K (.exit 0) [] [some ⟨false, [.seq (.int .u32) 8 y0, .full 3, .int .u64 d.2.1.2.2.2.1]⟩, none, some ⟨d.2.2.2.1.1, [.seq (.int .u8) 0 d.2.2.2.1.2.1]⟩, some ⟨false, [.seq (.int .u8) 0 y3]⟩]) k d.2.1.2.1 d.2.2.2.2.1.2.1) []) b74_0 (encT sh74_1_l3.vs d.1) (encH sh74_1_l3.h d.2) K := by kernel_rfl
theorem L74_1_3 (F : Nat) : LoopOK Try.prog (T74_1 F) (xw []) 54 3 (LT74_1 F) (G74_1_3 F F) b74_0 :=
  loopOK_of (s := sh74_1_l3) (live := [0]) (out := (outT [(.exit 0, [])])) (mv := []) (fun k d K => f74_1_l3 F d.2.1.2.2.2.1 d.2.2.2.1.2.1 (fun (y0 : List Int) (y3 : List Int) => K (.exit 0) [] [some ⟨false, [.seq (.int .u32) 8 y0, .full 3, .int .u64 d.2.1.2.2.2.1]⟩, none, some ⟨d.2.2.2.1.1, [.seq (.int .u8) 0 d.2.2.2.1.2.1]⟩, some ⟨false, [.seq (.int .u8) 0 y3]⟩]) k d.2.1.2.1 d.2.2.2.2.1.2.1) F (fun d K => by kernel_rfl)  (fun k d K => Eq.mp (by kernel_rfl) (L74_1_l3g F k (f94_1 F)  (f74_1_l3 F) (G74_1_3 F F) d K))
theorem E74_1g (F : Nat) (c94_1 : List Int → List Int → (List Int → Option Res) → Option Res) (l3 : Int → List Int → (List Int → List Int → Option Res) → Nat → List Int → List Int → Option Res)  (d : sh74_1.den) (K : KF) : evBody Try.prog (tab [(94, (mkS sh94_1 (fun d K => c94_1 d.1.1.1 d.2.1.2.1 (fun (y0 : List Int) => K [.agg [.seq (.int .u32) 8 y0]] [some ⟨d.2.1.1, [.seq (.int .u8) 0 d.2.1.2.1]⟩])) noS))]) (xw []) 54 3 (ltab [(3, mkG sh74_1_l3 [0] (outT [(.exit 0, [])]) (fun d K => l3 d.2.1.2.2.2.1 d.2.2.2.1.2.1 (fun (y0 : List Int) (y3 : List Int) => K (.exit 0) [] [some ⟨false, [.seq (.int .u32) 8 y0, .full 3, .int .u64 d.2.1.2.2.2.1]⟩, none, some ⟨d.2.2.2.1.1, [.seq (.int .u8) 0 d.2.2.2.1.2.1]⟩, some ⟨false, [.seq (.int .u8) 0 y3]⟩]) F d.2.1.2.1 d.2.2.2.2.1.2.1) [])]) code74 Try.f74.results.toList (encT sh74_1.vs d.1) (encH sh74_1.h d.2) K = (fun (a1 : List Int) (a2 : Int) (a3 : List Int) (a4 : List Int) (K0 : (List Int → Int → List Int → Option Res)) => cond (decide ((a3.length + a4.length) * 1 ≤ 70368744177664)) (l3 (IntKind.u64.wrap (a2 + (IntKind.u64.wrap ((a4.length : Nat) : Int)))) a4 (fun x6 x7 => K0 x6 (IntKind.u64.wrap (a2 + (IntKind.u64.wrap ((a4.length : Nat) : Int)))) x7) F a1 (a3 ++ a4)) none) d.2.1.2.1 d.2.1.2.2.2.1 d.2.2.1.2.1 d.2.2.2.1.2.1 (fun (y0 : List Int) (y1 : Int) (y3 : List Int) => K [] [some ⟨false, [.seq (.int .u32) 8 y0, .full 3, .int .u64 y1]⟩, none, some ⟨d.2.2.2.1.1, [.seq (.int .u8) 0 d.2.2.2.1.2.1]⟩, some ⟨false, [.seq (.int .u8) 0 y3]⟩]) := by kernel_rfl
theorem E74_1 (F : Nat) (d : sh74_1.den) (K : KF) : evBody Try.prog (T74_1 F) (xw []) 54 3 (LT74_1 F) code74 Try.f74.results.toList (encT sh74_1.vs d.1) (encH sh74_1.h d.2) K = f74_1 F d.2.1.2.1 d.2.1.2.2.2.1 d.2.2.1.2.1 d.2.2.2.1.2.1 (fun (y0 : List Int) (y1 : Int) (y3 : List Int) => K [] [some ⟨false, [.seq (.int .u32) 8 y0, .full 3, .int .u64 y1]⟩, none, some ⟨d.2.2.2.1.1, [.seq (.int .u8) 0 d.2.2.2.1.2.1]⟩, some ⟨false, [.seq (.int .u8) 0 y3]⟩]) := Eq.mp (by kernel_rfl) (E74_1g F (f94_1 F) (f74_1_l3 F)  d K)
theorem S74_1_ok (F : Nat) (o : Summ) (ho : SoundFn Try.prog 74 o) : SoundFn Try.prog 74 (S74_1 F o) :=
  soundFn_of (fn := Try.f74) (c := code74) rfl rfl (by kernel_rfl) (tab_cons (S94_1_ok F _ (noS_sound enter94)) tab_nil) (by kernel_rfl) (by kernel_rfl) ho (by rw [loops74]; exact (loopsOK_cons (by kernel_rfl) (L74_1_3 F) loopsOK_nil)) (by rw [scopes74]; exact scopesOK_nil) (by rw [ranges74]; exact rangesOK_nil) (E74_1 F)
end Go.Proofs.Ytlokielmpdjedaa.X
end

section
namespace Go.Proofs.Ytlokielmpdjedaa.X
open Go Go.Proofs.Ytlokielmpdjedaa.Ev Go.Proofs
set_option linter.unusedVariables false
set_option linter.unusedSectionVars false
/-! sha.Hash).Sum -/
noncomputable def f75_1_l10 {β : Type} (F : Nat) (v1 : Nat) (v2 : Nat) (v3 : Nat) (v4 : Int) (v6 : List Int) (v7 : Int) (v8 : List Int) (K0 : List Int → Option β) : Nat → Int → List Int → Option β
  | 0, _, _ => none
  | k + 1, v5, v9 => cond (decide (v5 < 8)) (cond (decide (IntKind.i64.wrap (8 * v5) < 0)) none (cond (decide ((0 : Int) ≤ IntKind.i64.wrap ((IntKind.i64.wrap (((v2 : Nat) : Int) - 1)) - v5) ∧ IntKind.i64.wrap ((IntKind.i64.wrap (((v2 : Nat) : Int) - 1)) - v5) < ((v2 : Nat) : Int))) (cond (decide (v1 + ((IntKind.i64.wrap ((IntKind.i64.wrap (((v2 : Nat) : Int) - 1)) - v5)).toNat) < v9.length)) (f75_1_l10 F v1 v2 v3 v4 v6 v7 v8 K0 k (IntKind.i64.wrap (v5 + 1)) (v9.set (v1 + ((IntKind.i64.wrap ((IntKind.i64.wrap (((v2 : Nat) : Int) - 1)) - v5)).toNat)) (IntKind.u8.wrap (ishr .u64 v4 (IntKind.i64.wrap (8 * v5)))))) none) none)) (K0 v9)
noncomputable def f75_1_l15 {β : Type} (F : Nat) (v14 : List Int) (v15 : Int) (v16 : List Int) (v17 : List Int) (K0 : List Int → Option β) : Nat → Nat → Nat → Nat → List Int → Option β
  | 0, _, _, _, _ => none
  | k + 1, v11, v12, v13, v18 => cond (decide (((v12 : Nat) : Int) > 0)) (f94_1 F v18 ((v17.drop v11).take v12) (fun x19 => cond (decide ((0 : Int) ≤ (64 : Int) ∧ (64 : Int) ≤ ((v12 : Nat) : Int) ∧ ((v12 : Nat) : Int) ≤ ((v13 : Nat) : Int))) (f75_1_l15 F v14 v15 v16 v17 K0 k (v11 + 64) ((((v12 : Nat) : Int) - 64).toNat) (v13 - 64) x19) none) ) (K0 v18)
noncomputable def f75_1_l20 {β : Type} (F : Nat) (v21 : List Int) (v23 : List Int) (v24 : Int) (v25 : List Int) (K0 : List Int → Option β) : Nat → Int → List Int → Option β
  | 0, _, _ => none
  | k + 1, v22, v26 => cond (decide (v22 < 8)) (cond (decide ((0 : Int) ≤ v22 ∧ v22 < 8)) (cond (decide ((v26.length + 4) * 1 ≤ 70368744177664)) (f75_1_l20 F v21 v23 v24 v25 K0 k (IntKind.i64.wrap (v22 + 1)) (v26 ++ [IntKind.u8.wrap (ishr .u32 (v21.getD v22.toNat 0) 24), IntKind.u8.wrap (ishr .u32 (v21.getD v22.toNat 0) 16), IntKind.u8.wrap (ishr .u32 (v21.getD v22.toNat 0) 8), IntKind.u8.wrap (v21.getD v22.toNat 0)])) none) none) (K0 v26)
noncomputable def f75_1 {β : Type} (F : Nat) (a1 : List Int) (a2 : Int) (a3 : List Int) (K0 : ByteArray → Option β) : Option β := cond (decide ((0 : Int) ≤ ((min a3.length 64 : Nat) : Int) ∧ ((min a3.length 64 : Nat) : Int) < (64 : Int))) (cond (decide (0 + (((min a3.length 64 : Nat) : Int).toNat) < ((List.replicate 128 0).take 0 ++ (a3.take 64 ++ (List.replicate 128 0).drop (0 + (min a3.length 64)))).length)) (cond (decide (((min a3.length 64 : Nat) : Int) ≥ 56)) (f75_1_l10 F 0 128 128 (IntKind.u64.wrap (8 * a2)) a1 a2 a3 (fun x10 => f75_1_l15 F a1 a2 a3 x10 (fun x20 => f75_1_l20 F x20 a1 a2 a3 (fun x27 => K0 (ofInts x27)) F 0 []) F 0 128 128 a1) F 0 (((List.replicate 128 0).take 0 ++ (a3.take 64 ++ (List.replicate 128 0).drop (0 + (min a3.length 64)))).set (0 + (((min a3.length 64 : Nat) : Int).toNat)) 128)) (f75_1_l10 F 0 64 128 (IntKind.u64.wrap (8 * a2)) a1 a2 a3 (fun x28 => f75_1_l15 F a1 a2 a3 x28 (fun x29 => f75_1_l20 F x29 a1 a2 a3 (fun x30 => K0 (ofInts x30)) F 0 []) F 0 64 128 a1) F 0 (((List.replicate 128 0).take 0 ++ (a3.take 64 ++ (List.replicate 128 0).drop (0 + (min a3.length 64)))).set (0 + (((min a3.length 64 : Nat) : Int).toNat)) 128))) none) none
variable [FZ]
def sh75_1 : Sh := ⟨[.lf (.ptr 0 0)], [some ⟨none, [.seq (.int .u32) 8, .full 1, .int .u64]⟩, some ⟨none, [.seq (.int .u8) 0]⟩]⟩
noncomputable def S75_1 (F : Nat) (o : Summ) : Summ := mkS sh75_1 (fun d K => f75_1 F d.2.1.2.1 d.2.1.2.2.2.1 d.2.2.1.2.1 (fun (y0 : ByteArray) => K [.lf (.str y0)] [some ⟨d.2.1.1, [.seq (.int .u32) 8 d.2.1.2.1, .full 1, .int .u64 d.2.1.2.2.2.1]⟩, some ⟨d.2.2.1.1, [.seq (.int .u8) 0 d.2.2.1.2.1]⟩])) o
noncomputable def code75 : Code := bodyOf Try.f75
noncomputable def b75_0 : Code := cB (cB (cR (cL (cR (cR (cR (cR (cR (cR (cR (code75)))))))))))
noncomputable def b75_1 : Code := cB (cB (cL (cR (cR (cR (cR (cR (cR (cR (cR (cR (code75))))))))))))
noncomputable def b75_2 : Code := cB (cB (cR (cL (cR (cR (cR (cR (cR (cR (cR (cR (cR (cR (cR (code75)))))))))))))))
theorem scopes75 : scopesOf code75 = [] := by kernel_rfl
theorem ranges75 : rangesOf code75 = [] := by kernel_rfl
theorem loops75 : loopsOf code75 = [b75_0, b75_1, b75_2] := by kernel_rfl
theorem enter75 : ∀ args w, (callFunc 75 args).run Try.prog w = .ok (.enter 75 args) w := enter_of (fn := Try.f75) (by kernel_rfl) (by kernel_rfl) (by kernel_rfl)
noncomputable def T75_1 (F : Nat) : FuncId → Option Summ := tab [(94, (S94_1 F noS))]
def sh75_1_l10 : Sh := ⟨[.lf (.ptr 0 0), .lf (.sliceC 2 0), .lf (.int .u64), .lf (.int .i64)], [some ⟨none, [.seq (.int .u32) 8, .full 1, .int .u64]⟩, some ⟨none, [.seq (.int .u8) 0]⟩, some ⟨some false, [.seq (.int .u8) 0]⟩]⟩
def sh75_1_l15 : Sh := ⟨[.lf (.sliceC 2 0), .lf (.ptr 3 0)], [some ⟨none, [.seq (.int .u32) 8, .full 1, .int .u64]⟩, some ⟨none, [.seq (.int .u8) 0]⟩, some ⟨some false, [.seq (.int .u8) 0]⟩, some ⟨some false, [.seq (.int .u32) 8]⟩]⟩
def sh75_1_l20 : Sh := ⟨[.lf (.full 2), .agg [.seq (.int .u32) 8], .lf (.int .i64)], [some ⟨none, [.seq (.int .u32) 8, .full 1, .int .u64]⟩, some ⟨none, [.seq (.int .u8) 0]⟩, some ⟨some false, [.seq (.int .u8) 0]⟩]⟩
noncomputable def G75_1_10 (F k : Nat) : LoopS := mkG sh75_1_l10 [0, 3, 5, 32] (outT [(.exit 0, [0, 3])]) (fun d K => f75_1_l10 F d.1.2.1.1 d.1.2.1.2.1 d.1.2.1.2.2 d.1.2.2.1 d.2.1.2.1 d.2.1.2.2.2.1 d.2.2.1.2.1 (fun (y6 : List Int) => K (.exit 0) [.tv (.lf (.ptr 0 0)), .tv (.lf (.slice 2 0 d.1.2.1.1 d.1.2.1.2.1 (some d.1.2.1.2.2)))] [some ⟨d.2.1.1, [.seq (.int .u32) 8 d.2.1.2.1, .full 1, .int .u64 d.2.1.2.2.2.1]⟩, some ⟨d.2.2.1.1, [.seq (.int .u8) 0 d.2.2.1.2.1]⟩, some ⟨false, [.seq (.int .u8) 0 y6]⟩]) k d.1.2.2.2.1 d.2.2.2.1.2.1) []
noncomputable def G75_1_15 (F k : Nat) : LoopS := mkG sh75_1_l15 [3, 7] (outT [(.exit 2, [7])]) (fun d K => f75_1_l15 F d.2.1.2.1 d.2.1.2.2.2.1 d.2.2.1.2.1 d.2.2.2.1.2.1 (fun (y4 : List Int) => K (.exit 2) [.tv (.lf (.ptr 3 0))] [some ⟨d.2.1.1, [.seq (.int .u32) 8 d.2.1.2.1, .full 1, .int .u64 d.2.1.2.2.2.1]⟩, some ⟨d.2.2.1.1, [.seq (.int .u8) 0 d.2.2.1.2.1]⟩, some ⟨false, [.seq (.int .u8) 0 d.2.2.2.1.2.1]⟩, some ⟨false, [.seq (.int .u32) 8 y4]⟩]) k d.1.1.1 d.1.1.2.1 d.1.1.2.2 d.2.2.2.2.1.2.1) []
noncomputable def G75_1_20 (F k : Nat) : LoopS := mkG sh75_1_l20 [8, 60, 61] (outT [(.exit 4, [8])]) (fun d K => f75_1_l20 F d.1.2.1.1 d.2.1.2.1 d.2.1.2.2.2.1 d.2.2.1.2.1 (fun (y3 : List Int) => K (.exit 4) [.tv (.lf (.full 2))] [some ⟨d.2.1.1, [.seq (.int .u32) 8 d.2.1.2.1, .full 1, .int .u64 d.2.1.2.2.2.1]⟩, some ⟨d.2.2.1.1, [.seq (.int .u8) 0 d.2.2.1.2.1]⟩, some ⟨false, [.seq (.int .u8) 0 y3]⟩]) k d.1.2.2.1 d.2.2.2.1.2.1) []
noncomputable def LT75_1 (F : Nat) : Nat → Option LoopS := ltab [(10, G75_1_10 F F), (15, G75_1_15 F F), (20, G75_1_20 F F)]
theorem L75_1_l10g (F k : Nat) (c94_1 : List Int → List Int → (List Int → Option Res) → Option Res)  (l10 : Nat → Nat → Nat → Int → List Int → Int → List Int → (List Int → Option Res) → Nat → Int → List Int → Option Res) (X10 : LoopS) (X15 : LoopS) (X20 : LoopS) (d : sh75_1_l10.den) (K : KL) : (fun (v1 : Nat) (v2 : Nat) (v3 : Nat) (v4 : Int) (v6 : List Int) (v7 : Int) (v8 : List Int) (K0 : (List Int → Option Res)) (k : Nat) (v5 : Int) (v9 : List Int) => cond (decide (v5 < 8)) (cond (decide (IntKind.i64.wrap (8 * v5) < 0)) none (cond (decide ((0 : Int) ≤ IntKind.i64.wrap ((IntKind.i64.wrap (((v2 : Nat) : Int) - 1)) - v5) ∧ IntKind.i64.wrap ((IntKind.i64.wrap (((v2 : Nat) : Int) - 1)) - v5) < ((v2 : Nat) : Int))) (cond (decide (v1 + ((IntKind.i64.wrap ((IntKind.i64.wrap (((v2 : Nat) : Int) - 1)) - v5)).toNat) < v9.length)) (l10 v1 v2 v3 v4 v6 v7 v8 K0 k (IntKind.i64.wrap (v5 + 1)) (v9.set (v1 + ((IntKind.i64.wrap ((IntKind.i64.wrap (((v2 : Nat) : Int) - 1)) - v5)).toNat)) (IntKind.u8.wrap (ishr .u64 v4 (IntKind.i64.wrap (8 * v5)))))) none) none)) (K0 v9)) d.1.2.1.1 d.1.2.1.2.1 d.1.2.1.2.2 d.1.2.2.1 d.2.1.2.1 d.2.1.2.2.2.1 d.2.2.1.2.1 (fun (y6 : List Int) => K (.exit 0) [.tv (.lf (.ptr 0 0)), .tv (.lf (.slice 2 0 d.1.2.1.1 d.1.2.1.2.1 (some d.1.2.1.2.2)))] [some ⟨d.2.1.1, [.seq (.int .u32) 8 d.2.1.2.1, .full 1, .int .u64 d.2.1.2.2.2.1]⟩, some ⟨d.2.2.1.1, [.seq (.int .u8) 0 d.2.2.1.2.1]⟩, some ⟨false, [.seq (.int .u8) 0 y6]⟩]) k d.1.2.2.2.1 d.2.2.2.1.2.1 = roundOf Try.prog (tab [(94, (mkS sh94_1 (fun d K => c94_1 d.1.1.1 d.2.1.2.1 (fun (y0 : List Int) => K [.agg [.seq (.int .u32) 8 y0]] [some ⟨d.2.1.1, [.seq (.int .u8) 0 d.2.1.2.1]⟩])) noS))]) (xw []) 81 2 (ltab [(10, X10), (15, X15), (20, X20)]) (mkG sh75_1_l10 [0, 3, 5, 32] (outT [(.exit 0, [0, 3])]) (fun d K => l10 d.1.2.1.1 d.1.2.1.2.1 d.1.2.1.2.2 d.1.2.2.1 d.2.1.2.1 d.2.1.2.2.2.1 d.2.2.1.2.1 (fun (y6 : List Int) => K (.exit 0) [.tv (.lf (.ptr 0 0)), .tv (.lf (.slice 2 0 d.1.2.1.1 d.1.2.1.2.1 (some d.1.2.1.2.2)))] [some ⟨d.2.1.1, [.seq (.int .u32) 8 d.2.1.2.1, .full 1, .int .u64 d.2.1.2.2.2.1]⟩, some ⟨d.2.2.1.1, [.seq (.int .u8) 0 d.2.2.1.2.1]⟩, some ⟨false, [.seq (.int .u8) 0 y6]⟩]) k d.1.2.2.2.1 d.2.2.2.1.2.1) []) b75_0 (encT sh75_1_l10.vs d.1) (encH sh75_1_l10.h d.2) K := by kernel_rfl
theorem L75_1_10 (F : Nat) : LoopOK Try.prog (T75_1 F) (xw []) 81 2 (LT75_1 F) (G75_1_10 F F) b75_0 :=
  loopOK_of (s := sh75_1_l10) (live := [0, 3, 5, 32]) (out := (outT [(.exit 0, [0, 3])])) (mv := []) (fun k d K => f75_1_l10 F d.1.2.1.1 d.1.2.1.2.1 d.1.2.1.2.2 d.1.2.2.1 d.2.1.2.1 d.2.1.2.2.2.1 d.2.2.1.2.1 (fun (y6 : List Int) => K (.exit 0) [.tv (.lf (.ptr 0 0)), .tv (.lf (.slice 2 0 d.1.2.1.1 d.1.2.1.2.1 (some d.1.2.1.2.2)))] [some ⟨d.2.1.1, [.seq (.int .u32) 8 d.2.1.2.1, .full 1, .int .u64 d.2.1.2.2.2.1]⟩, some ⟨d.2.2.1.1, [.seq (.int .u8) 0 d.2.2.1.2.1]⟩, some ⟨false, [.seq (.int .u8) 0 y6]⟩]) k d.1.2.2.2.1 d.2.2.2.1.2.1) F (fun d K => by kernel_rfl)  (fun k d K => Eq.mp (by kernel_rfl) (L75_1_l10g F k (f94_1 F)  (f75_1_l10 F) (G75_1_10 F F) (G75_1_15 F F) (G75_1_20 F F) d K))
theorem L75_1_l15g (F k : Nat) (c94_1 : List Int → List Int → (List Int → Option Res) → Option Res)  (l15 : List Int → Int → List Int → List Int → (List Int → Option Res) → Nat → Nat → Nat → Nat → List Int → Option Res) (X10 : LoopS) (X15 : LoopS) (X20 : LoopS) (d : sh75_1_l15.den) (K : KL) : (fun (v14 : List Int) (v15 : Int) (v16 : List Int) (v17 : List Int) (K0 : (List Int → Option Res)) (k : Nat) (v11 : Nat) (v12 : Nat) (v13 : Nat) (v18 : List Int) => cond (decide (((v12 : Nat) : Int) > 0)) (c94_1 v18 ((v17.drop v11).take v12) (fun x19 => cond (decide ((0 : Int) ≤ (64 : Int) ∧ (64 : Int) ≤ ((v12 : Nat) : Int) ∧ ((v12 : Nat) : Int) ≤ ((v13 : Nat) : Int))) (l15 v14 v15 v16 v17 K0 k (v11 + 64) ((((v12 : Nat) : Int) - 64).toNat) (v13 - 64) x19) none) ) (K0 v18)) d.2.1.2.1 d.2.1.2.2.2.1 d.2.2.1.2.1 d.2.2.2.1.2.1 (fun (y4 : List Int) => K (.exit 2) [.tv (.lf (.ptr 3 0))] [some ⟨d.2.1.1, [.seq (.int .u32) 8 d.2.1.2.1, .full 1, .int .u64 d.2.1.2.2.2.1]⟩, some ⟨d.2.2.1.1, [.seq (.int .u8) 0 d.2.2.1.2.1]⟩, some ⟨false, [.seq (.int .u8) 0 d.2.2.2.1.2.1]⟩, some ⟨false, [.seq (.int .u32) 8 y4]⟩]) k d.1.1.1 d.1.1.2.1 d.1.1.2.2 d.2.2.2.2.1.2.1 = roundOf Try.prog (tab [(94, (mkS sh94_1 (fun d K => c94_1 d.1.1.1 d.2.1.2.1 (fun (y0 : List Int) => K [.agg [.seq (.int .u32) 8 y0]] [some ⟨d.2.1.1, [.seq (.int .u8) 0 d.2.1.2.1]⟩])) noS))]) (xw []) 81 2 (ltab [(10, X10), (15, X15), (20, X20)]) (mkG sh75_1_l15 [3, 7] (outT [(.exit 2, [7])]) (fun d K => l15 d.2.1.2.1 d.2.1.2.2.2.1 d.2.2.1.2.1 d.2.2.2.1.2.1 (fun (y4 : List Int) => K (.exit 2) [.tv (.lf (.ptr 3 0))] [some ⟨d.2.1.1, [.seq (.int .u32) 8 d.2.1.2.1, .full 1, .int .u64 d.2.1.2.2.2.1]⟩, some ⟨d.2.2.1.1, [.seq (.int .u8) 0 d.2.2.1.2.1]⟩, some ⟨false, [.seq (.int .u8) 0 d.2.2.2.1.2.1]⟩, some ⟨false, [.seq (.int .u32) 8 y4]⟩]) k d.1.1.1 d.1.1.2.1 d.1.1.2.2 d.2.2.2.2.1.2.1) []) b75_1 (encT sh75_1_l15.vs d.1) (encH sh75_1_l15.h d.2) K := by kernel_rfl
theorem L75_1_15 (F : Nat) : LoopOK Try.prog (T75_1 F) (xw []) 81 2 (LT75_1 F) (G75_1_15 F F) b75_1 :=
  loopOK_of (s := sh75_1_l15) (live := [3, 7]) (out := (outT [(.exit 2, [7])])) (mv := []) (fun k d K => f75_1_l15 F d.2.1.2.1 d.2.1.2.2.2.1 d.2.2.1.2.1 d.2.2.2.1.2.1 (fun (y4 : List Int) => K (.exit 2) [.tv (.lf (.ptr 3 0))] [some ⟨d.2.1.1, [.seq (.int .u32) 8 d.2.1.2.1, .full 1, .int .u64 d.2.1.2.2.2.1]⟩, some ⟨d.2.2.1.1, [.seq (.int .u8) 0 d.2.2.1.2.1]⟩, some ⟨false, [.seq (.int .u8) 0 d.2.2.2.1.2.1]⟩, some ⟨false, [.seq (.int .u32) 8 y4]⟩]) k d.1.1.1 d.1.1.2.1 d.1.1.2.2 d.2.2.2.2.1.2.1) F (fun d K => by kernel_rfl)  (fun k d K => Eq.mp (by kernel_rfl) (L75_1_l15g F k (f94_1 F)  (f75_1_l15 F) (G75_1_10 F F) (G75_1_15 F F) (G75_1_20 F F) d K))
theorem L75_1_l20g (F k : Nat) (c94_1 : List Int → List Int → (List Int → Option Res) → Option Res)  (l20 : List Int → List Int → Int → List Int → (List Int → Option Res) → Nat → Int → List Int → Option Res) (X10 : LoopS) (X15 : LoopS) (X20 : LoopS) (d : sh75_1_l20.den) (K : KL) : (fun (v21 : List Int) (v23 : List Int) (v24 : Int) (v25 : List Int) (K0 : (List Int → Option Res)) (k : Nat) (v22 : Int) (v26 : List Int) => cond (decide (v22 < 8)) (cond (decide ((0 : Int) ≤ v22 ∧ v22 < 8)) (cond (decide ((v26.length + 4) * 1 ≤ 70368744177664)) (l20 v21 v23 v24 v25 K0 k (IntKind.i64.wrap (v22 + 1)) (v26 ++ [IntKind.u8.wrap (ishr .u32 (v21.getD v22.toNat 0) 24), IntKind.u8.wrap (ishr .u32 (v21.getD v22.toNat 0) 16), IntKind.u8.wrap (ishr .u32 (v21.getD v22.toNat 0) 8), IntKind.u8.wrap (v21.getD v22.toNat 0)])) none) none) (K0 v26)) d.1.2.1.1 d.2.1.2.1 d.2.1.2.2.2.1 d.2.2.1.2.1 (fun (y3 : List Int) => K (.exit 4) [.tv (.lf (.full 2))] [some ⟨d.2.1.1, [.seq (.int .u32) 8 d.2.1.2.1, .full 1, .int .u64 d.2.1.2.2.2.1]⟩, some ⟨d.2.2.1.1, [.seq (.int .u8) 0 d.2.2.1.2.1]⟩, some ⟨false, [.seq (.int .u8) 0 y3]⟩]) k d.1.2.2.1 d.2.2.2.1.2.1 = roundOf Try.prog (tab [(94, (mkS sh94_1 (fun d K => c94_1 d.1.1.1 d.2.1.2.1 (fun (y0 : List Int) => K [.agg [.seq (.int .u32) 8 y0]] [some ⟨d.2.1.1, [.seq (.int .u8) 0 d.2.1.2.1]⟩])) noS))]) (xw []) 81 2 (ltab [(10, X10), (15, X15), (20, X20)]) (mkG sh75_1_l20 [8, 60, 61] (outT [(.exit 4, [8])]) (fun d K => l20 d.1.2.1.1 d.2.1.2.1 d.2.1.2.2.2.1 d.2.2.1.2.1 (fun (y3 : List Int) => K (.exit 4) [.tv (.lf (.full 2))] [some ⟨d.2.1.1, [.seq (.int .u32) 8 d.2.1.2.1, .full 1, .int .u64 d.2.1.2.2.2.1]⟩, some ⟨d.2.2.1.1, [.seq (.int .u8) 0 d.2.2.1.2.1]⟩, some ⟨false, [.seq (.int .u8) 0 y3]⟩]) k d.1.2.2.1 d.2.2.2.1.2.1) []) b75_2 (encT sh75_1_l20.vs d.1) (encH sh75_1_l20.h d.2) K := by kernel_rfl
theorem L75_1_20 (F : Nat) : LoopOK Try.prog (T75_1 F) (xw []) 81 2 (LT75_1 F) (G75_1_20 F F) b75_2 :=
  loopOK_of (s := sh75_1_l20) (live := [8, 60, 61]) (out := (outT [(.exit 4, [8])])) (mv := []) (fun k d K => f75_1_l20 F d.1.2.1.1 d.2.1.2.1 d.2.1.2.2.2.1 d.2.2.1.2.1 (fun (y3 : List Int) => K (.exit 4) [.tv (.lf (.full 2))] [some ⟨d.2.1.1, [.seq (.int .u32) 8 d.2.1.2.1, .full 1, .int .u64 d.2.1.2.2.2.1]⟩, some ⟨d.2.2.1.1, [.seq (.int .u8) 0 d.2.2.1.2.1]⟩, some ⟨false, [.seq (.int .u8) 0 y3]⟩]) k d.1.2.2.1 d.2.2.2.1.2.1) F (fun d K => by kernel_rfl)  (fun k d K => Eq.mp (by kernel_rfl) (L75_1_l20g F k (f94_1 F)  (f75_1_l20 F) (G75_1_10 F F) (G75_1_15 F F) (G75_1_20 F F) d K))
theorem E75_1g (F : Nat) (c94_1 : List Int → List Int → (List Int → Option Res) → Option Res) (l10 : Nat → Nat → Nat → Int → List Int → Int → List Int → (List Int → Option Res) → Nat → Int → List Int → Option Res) (l15 : List Int → Int → List Int → List Int → (List Int → Option Res) → Nat → Nat → Nat → Nat → List Int → Option Res) (l20 : List Int → List Int → Int → List Int → (List Int → Option Res) → Nat → Int → List Int → Option Res)  (d : sh75_1.den) (K : KF) : evBody Try.prog (tab [(94, (mkS sh94_1 (fun d K => c94_1 d.1.1.1 d.2.1.2.1 (fun (y0 : List Int) => K [.agg [.seq (.int .u32) 8 y0]] [some ⟨d.2.1.1, [.seq (.int .u8) 0 d.2.1.2.1]⟩])) noS))]) (xw []) 81 2 (ltab [(10, mkG sh75_1_l10 [0, 3, 5, 32] (outT [(.exit 0, [0, 3])]) (fun d K => l10 d.1.2.1.1 d.1.2.1.2.1 d.1.2.1.2.2 d.1.2.2.1 d.2.1.2.1 d.2.1.2.2.2.1 d.2.2.1.2.1 (fun (y6 : List Int) => K (.exit 0) [.tv (.lf (.ptr 0 0)), .tv (.lf (.slice 2 0 d.1.2.1.1 d.1.2.1.2.1 (some d.1.2.1.2.2)))] [some ⟨d.2.1.1, [.seq (.int .u32) 8 d.2.1.2.1, .full 1, .int .u64 d.2.1.2.2.2.1]⟩, some ⟨d.2.2.1.1, [.seq (.int .u8) 0 d.2.2.1.2.1]⟩, some ⟨false, [.seq (.int .u8) 0 y6]⟩]) F d.1.2.2.2.1 d.2.2.2.1.2.1) []), (15, mkG sh75_1_l15 [3, 7] (outT [(.exit 2, [7])]) (fun d K => l15 d.2.1.2.1 d.2.1.2.2.2.1 d.2.2.1.2.1 d.2.2.2.1.2.1 (fun (y4 : List Int) => K (.exit 2) [.tv (.lf (.ptr 3 0))] [some ⟨d.2.1.1, [.seq (.int .u32) 8 d.2.1.2.1, .full 1, .int .u64 d.2.1.2.2.2.1]⟩, some ⟨d.2.2.1.1, [.seq (.int .u8) 0 d.2.2.1.2.1]⟩, some ⟨false, [.seq (.int .u8) 0 d.2.2.2.1.2.1]⟩, some ⟨false, [.seq (.int .u32) 8 y4]⟩]) F d.1.1.1 d.1.1.2.1 d.1.1.2.2 d.2.2.2.2.1.2.1) []), (20, mkG sh75_1_l20 [8, 60, 61] (outT [(.exit 4, [8])]) (fun d K => l20 d.1.2.1.1 d.2.1.2.1 d.2.1.2.2.2.1 d.2.2.1.2.1 (fun (y3 : List Int) => K (.exit 4) [.tv (.lf (.full 2))] [some ⟨d.2.1.1, [.seq (.int .u32) 8 d.2.1.2.1, .full 1, .int .u64 d.2.1.2.2.2.1]⟩, some ⟨d.2.2.1.1, [.seq (.int .u8) 0 d.2.2.1.2.1]⟩, some ⟨false, [.seq (.int .u8) 0 y3]⟩]) F d.1.2.2.1 d.2.2.2.1.2.1) [])]) code75 Try.f75.results.toList (encT sh75_1.vs d.1) (encH sh75_1.h d.2) K = (fun (a1 : List Int) (a2 : Int) (a3 : List Int) (K0 : (ByteArray → Option Res)) => cond (decide ((0 : Int) ≤ ((min a3.length 64 : Nat) : Int) ∧ ((min a3.length 64 : Nat) : Int) < (64 : Int))) (cond (decide (0 + (((min a3.length 64 : Nat) : Int).toNat) < ((List.replicate 128 0).take 0 ++ (a3.take 64 ++ (List.replicate 128 0).drop (0 + (min a3.length 64)))).length)) (cond (decide (((min a3.length 64 : Nat) : Int) ≥ 56)) (l10 0 128 128 (IntKind.u64.wrap (8 * a2)) a1 a2 a3 (fun x10 => l15 a1 a2 a3 x10 (fun x20 => l20 x20 a1 a2 a3 (fun x27 => K0 (ofInts x27)) F 0 []) F 0 128 128 a1) F 0 (((List.replicate 128 0).take 0 ++ (a3.take 64 ++ (List.replicate 128 0).drop (0 + (min a3.length 64)))).set (0 + (((min a3.length 64 : Nat) : Int).toNat)) 128)) (l10 0 64 128 (IntKind.u64.wrap (8 * a2)) a1 a2 a3 (fun x28 => l15 a1 a2 a3 x28 (fun x29 => l20 x29 a1 a2 a3 (fun x30 => K0 (ofInts x30)) F 0 []) F 0 64 128 a1) F 0 (((List.replicate 128 0).take 0 ++ (a3.take 64 ++ (List.replicate 128 0).drop (0 + (min a3.length 64)))).set (0 + (((min a3.length 64 : Nat) : Int).toNat)) 128))) none) none) d.2.1.2.1 d.2.1.2.2.2.1 d.2.2.1.2.1 (fun (y0 : ByteArray) => K [.lf (.str y0)] [some ⟨d.2.1.1, [.seq (.int .u32) 8 d.2.1.2.1, .full 1, .int .u64 d.2.1.2.2.2.1]⟩, some ⟨d.2.2.1.1, [.seq (.int .u8) 0 d.2.2.1.2.1]⟩]) := by kernel_rfl
theorem E75_1 (F : Nat) (d : sh75_1.den) (K : KF) : evBody Try.prog (T75_1 F) (xw []) 81 2 (LT75_1 F) code75 Try.f75.results.toList (encT sh75_1.vs d.1) (encH sh75_1.h d.2) K = f75_1 F d.2.1.2.1 d.2.1.2.2.2.1 d.2.2.1.2.1 (fun (y0 : ByteArray) => K [.lf (.str y0)] [some ⟨d.2.1.1, [.seq (.int .u32) 8 d.2.1.2.1, .full 1, .int .u64 d.2.1.2.2.2.1]⟩, some ⟨d.2.2.1.1, [.seq (.int .u8) 0 d.2.2.1.2.1]⟩]) := Eq.mp (by kernel_rfl) (E75_1g F (f94_1 F) (f75_1_l10 F) (f75_1_l15 F) (f75_1_l20 F)  d K)
theorem S75_1_ok (F : Nat) (o : Summ) (ho : SoundFn Try.prog 75 o) : SoundFn Try.prog 75 (S75_1 F o) :=
  soundFn_of (fn := Try.f75) (c := code75) rfl rfl (by kernel_rfl) (tab_cons (S94_1_ok F _ (noS_sound enter94)) tab_nil) (by kernel_rfl) (by kernel_rfl) ho (by rw [loops75]; exact (loopsOK_cons (by kernel_rfl) (L75_1_10 F) (loopsOK_cons (by kernel_rfl) (L75_1_15 F) (loopsOK_cons (by kernel_rfl) (L75_1_20 F) loopsOK_nil)))) (by rw [scopes75]; exact scopesOK_nil) (by rw [ranges75]; exact rangesOK_nil) (E75_1 F)
end Go.Proofs.Ytlokielmpdjedaa.X
end

section
namespace Go.Proofs.Ytlokielmpdjedaa.X
open Go Go.Proofs.Ytlokielmpdjedaa.Ev Go.Proofs
set_option linter.unusedVariables false
set_option linter.unusedSectionVars false
/-! sha.Sum -/
noncomputable def f71_1 {β : Type} (F : Nat) (a1 : List Int) (K0 : ByteArray → Option β) : Option β := f73_1 F  (fun x1 x2 => f74_1 F x1 0 x2 a1 (fun x3 x4 x5 => f75_1 F x3 x4 x5 (fun x6 => K0 x6) ) ) 
variable [FZ]
def sh71_1 : Sh := ⟨[.lf (.full 0)], [some ⟨none, [.seq (.int .u8) 0]⟩]⟩
noncomputable def S71_1 (F : Nat) (o : Summ) : Summ := mkS sh71_1 (fun d K => f71_1 F d.2.1.2.1 (fun (y0 : ByteArray) => K [.lf (.str y0)] [some ⟨d.2.1.1, [.seq (.int .u8) 0 d.2.1.2.1]⟩])) o
noncomputable def code71 : Code := bodyOf Try.f71
theorem scopes71 : scopesOf code71 = [] := by kernel_rfl
theorem ranges71 : rangesOf code71 = [] := by kernel_rfl
theorem loops71 : loopsOf code71 = [] := by kernel_rfl
theorem enter71 : ∀ args w, (callFunc 71 args).run Try.prog w = .ok (.enter 71 args) w := enter_of (fn := Try.f71) (by kernel_rfl) (by kernel_rfl) (by kernel_rfl)
noncomputable def T71_1 (F : Nat) : FuncId → Option Summ := tab [(73, (S73_1 F noS)), (74, (S74_1 F noS)), (75, (S75_1 F noS))]
noncomputable def LT71_1 (F : Nat) : Nat → Option LoopS := ltab []
theorem E71_1g (F : Nat) (c73_1 : (List Int → List Int → Option Res) → Option Res) (c74_1 : List Int → Int → List Int → List Int → (List Int → Int → List Int → Option Res) → Option Res) (c75_1 : List Int → Int → List Int → (ByteArray → Option Res) → Option Res)   (d : sh71_1.den) (K : KF) : evBody Try.prog (tab [(73, (mkS sh73_1 (fun d K => c73_1 (fun (y0 : List Int) (y2 : List Int) => K [.lf (.ptr 0 0)] [some ⟨false, [.seq (.int .u32) 8 y0, .full 1, .int .u64 0]⟩, some ⟨false, [.seq (.int .u8) 0 y2]⟩])) noS)), (74, (mkS sh74_1 (fun d K => c74_1 d.2.1.2.1 d.2.1.2.2.2.1 d.2.2.1.2.1 d.2.2.2.1.2.1 (fun (y0 : List Int) (y1 : Int) (y3 : List Int) => K [] [some ⟨false, [.seq (.int .u32) 8 y0, .full 3, .int .u64 y1]⟩, none, some ⟨d.2.2.2.1.1, [.seq (.int .u8) 0 d.2.2.2.1.2.1]⟩, some ⟨false, [.seq (.int .u8) 0 y3]⟩])) noS)), (75, (mkS sh75_1 (fun d K => c75_1 d.2.1.2.1 d.2.1.2.2.2.1 d.2.2.1.2.1 (fun (y0 : ByteArray) => K [.lf (.str y0)] [some ⟨d.2.1.1, [.seq (.int .u32) 8 d.2.1.2.1, .full 1, .int .u64 d.2.1.2.2.2.1]⟩, some ⟨d.2.2.1.1, [.seq (.int .u8) 0 d.2.2.1.2.1]⟩])) noS))]) (xw []) 10 1 (ltab []) code71 Try.f71.results.toList (encT sh71_1.vs d.1) (encH sh71_1.h d.2) K = (fun (a1 : List Int) (K0 : (ByteArray → Option Res)) => c73_1  (fun x1 x2 => c74_1 x1 0 x2 a1 (fun x3 x4 x5 => c75_1 x3 x4 x5 (fun x6 => K0 x6) ) ) ) d.2.1.2.1 (fun (y0 : ByteArray) => K [.lf (.str y0)] [some ⟨d.2.1.1, [.seq (.int .u8) 0 d.2.1.2.1]⟩]) := by kernel_rfl
theorem E71_1 (F : Nat) (d : sh71_1.den) (K : KF) : evBody Try.prog (T71_1 F) (xw []) 10 1 (LT71_1 F) code71 Try.f71.results.toList (encT sh71_1.vs d.1) (encH sh71_1.h d.2) K = f71_1 F d.2.1.2.1 (fun (y0 : ByteArray) => K [.lf (.str y0)] [some ⟨d.2.1.1, [.seq (.int .u8) 0 d.2.1.2.1]⟩]) := Eq.mp (by kernel_rfl) (E71_1g F (f73_1 F) (f74_1 F) (f75_1 F)   d K)
theorem S71_1_ok (F : Nat) (o : Summ) (ho : SoundFn Try.prog 71 o) : SoundFn Try.prog 71 (S71_1 F o) :=
  soundFn_of (fn := Try.f71) (c := code71) rfl rfl (by kernel_rfl) (tab_cons (S73_1_ok F _ (noS_sound enter73)) (tab_cons (S74_1_ok F _ (noS_sound enter74)) (tab_cons (S75_1_ok F _ (noS_sound enter75)) tab_nil))) (by kernel_rfl) (by kernel_rfl) ho (by rw [loops71]; exact loopsOK_nil) (by rw [scopes71]; exact scopesOK_nil) (by rw [ranges71]; exact rangesOK_nil) (E71_1 F)
end Go.Proofs.Ytlokielmpdjedaa.X
end

section
namespace Go.Proofs.Ytlokielmpdjedaa.X
open Go Go.Proofs.Ytlokielmpdjedaa.Ev Go.Proofs
set_option linter.unusedVariables false
set_option linter.unusedSectionVars false
/-! sha.Hash).Len -/
noncomputable def f76_1 {β : Type} (F : Nat) (a1 : List Int) (a2 : Int) (a3 : List Int) (K0 : Option β) : Option β := K0
variable [FZ]
def sh76_1 : Sh := ⟨[.lf (.ptr 0 0)], [some ⟨none, [.seq (.int .u32) 8, .full 1, .int .u64]⟩, some ⟨none, [.seq (.int .u8) 0]⟩]⟩
noncomputable def S76_1 (F : Nat) (o : Summ) : Summ := mkS sh76_1 (fun d K => f76_1 F d.2.1.2.1 d.2.1.2.2.2.1 d.2.2.1.2.1 (K [.lf (.int .u64 d.2.1.2.2.2.1)] [some ⟨d.2.1.1, [.seq (.int .u32) 8 d.2.1.2.1, .full 1, .int .u64 d.2.1.2.2.2.1]⟩, some ⟨d.2.2.1.1, [.seq (.int .u8) 0 d.2.2.1.2.1]⟩])) o
noncomputable def code76 : Code := bodyOf Try.f76
theorem scopes76 : scopesOf code76 = [] := by kernel_rfl
theorem ranges76 : rangesOf code76 = [] := by kernel_rfl
theorem loops76 : loopsOf code76 = [] := by kernel_rfl
theorem enter76 : ∀ args w, (callFunc 76 args).run Try.prog w = .ok (.enter 76 args) w := enter_of (fn := Try.f76) (by kernel_rfl) (by kernel_rfl) (by kernel_rfl)
noncomputable def T76_1 (F : Nat) : FuncId → Option Summ := tab []
noncomputable def LT76_1 (F : Nat) : Nat → Option LoopS := ltab []
theorem E76_1g (F : Nat)    (d : sh76_1.den) (K : KF) : evBody Try.prog (tab []) (xw []) 9 2 (ltab []) code76 Try.f76.results.toList (encT sh76_1.vs d.1) (encH sh76_1.h d.2) K = (fun (a1 : List Int) (a2 : Int) (a3 : List Int) (K0 : (Option Res)) => K0) d.2.1.2.1 d.2.1.2.2.2.1 d.2.2.1.2.1 (K [.lf (.int .u64 d.2.1.2.2.2.1)] [some ⟨d.2.1.1, [.seq (.int .u32) 8 d.2.1.2.1, .full 1, .int .u64 d.2.1.2.2.2.1]⟩, some ⟨d.2.2.1.1, [.seq (.int .u8) 0 d.2.2.1.2.1]⟩]) := by kernel_rfl
theorem E76_1 (F : Nat) (d : sh76_1.den) (K : KF) : evBody Try.prog (T76_1 F) (xw []) 9 2 (LT76_1 F) code76 Try.f76.results.toList (encT sh76_1.vs d.1) (encH sh76_1.h d.2) K = f76_1 F d.2.1.2.1 d.2.1.2.2.2.1 d.2.2.1.2.1 (K [.lf (.int .u64 d.2.1.2.2.2.1)] [some ⟨d.2.1.1, [.seq (.int .u32) 8 d.2.1.2.1, .full 1, .int .u64 d.2.1.2.2.2.1]⟩, some ⟨d.2.2.1.1, [.seq (.int .u8) 0 d.2.2.1.2.1]⟩]) := Eq.mp (by kernel_rfl) (E76_1g F    d K)
theorem S76_1_ok (F : Nat) (o : Summ) (ho : SoundFn Try.prog 76 o) : SoundFn Try.prog 76 (S76_1 F o) :=
  soundFn_of (fn := Try.f76) (c := code76) rfl rfl (by kernel_rfl) tab_nil (by kernel_rfl) (by kernel_rfl) ho (by rw [loops76]; exact loopsOK_nil) (by rw [scopes76]; exact scopesOK_nil) (by rw [ranges76]; exact rangesOK_nil) (E76_1 F)
end Go.Proofs.Ytlokielmpdjedaa.X
end

section
namespace Go.Proofs.Ytlokielmpdjedaa.X
open Go Go.Proofs.Ytlokielmpdjedaa.Ev Go.Proofs
set_option linter.unusedVariables false
set_option linter.unusedSectionVars false
/-! pentimentolaw03.known -/
noncomputable def f70_1 {β : Type} (F : Nat)  (K0 : Bool → Option β) : Option β := f73_1 F  (fun x1 x2 => f74_1 F x1 0 x2 [97, 98, 99] (fun x3 x4 x5 => f75_1 F x3 x4 x5 (fun x6 => cond ((x6.size : Int) == 32) (cond (decide ((0 : Int) ≤ (0 : Int) ∧ (0 : Int) ≤ (4 : Int) ∧ (4 : Int) ≤ (x6.size : Int))) (cond ((x6.extract 0 4).toList == (⟨#[186, 120, 22, 191]⟩ : ByteArray).toList) (f71_1 F [97, 98, 99] (fun x7 => cond (x7.toList == x6.toList) (f76_1 F x3 x4 x5 (K0 (x4 == 3)) ) (K0 false)) ) (K0 false)) none) (K0 false)) ) ) 
variable [FZ]
def sh70_1 : Sh := ⟨[], []⟩
noncomputable def S70_1 (F : Nat) (o : Summ) : Summ := mkS sh70_1 (fun d K => f70_1 F (fun (y0 : Bool) => K [.lf (.bool y0)] [])) o
noncomputable def code70 : Code := bodyOf Try.f70
theorem scopes70 : scopesOf code70 = [] := by kernel_rfl
theorem ranges70 : rangesOf code70 = [] := by kernel_rfl
theorem loops70 : loopsOf code70 = [] := by kernel_rfl
theorem enter70 : ∀ args w, (callFunc 70 args).run Try.prog w = .ok (.enter 70 args) w := enter_of (fn := Try.f70) (by kernel_rfl) (by kernel_rfl) (by kernel_rfl)
noncomputable def T70_1 (F : Nat) : FuncId → Option Summ := tab [(71, (S71_1 F noS)), (73, (S73_1 F noS)), (74, (S74_1 F noS)), (75, (S75_1 F noS)), (76, (S76_1 F noS))]
noncomputable def LT70_1 (F : Nat) : Nat → Option LoopS := ltab []
theorem E70_1g (F : Nat) (c71_1 : List Int → (ByteArray → Option Res) → Option Res) (c73_1 : (List Int → List Int → Option Res) → Option Res) (c74_1 : List Int → Int → List Int → List Int → (List Int → Int → List Int → Option Res) → Option Res) (c75_1 : List Int → Int → List Int → (ByteArray → Option Res) → Option Res) (c76_1 : List Int → Int → List Int → (Option Res) → Option Res)   (d : sh70_1.den) (K : KF) : evBody Try.prog (tab [(71, (mkS sh71_1 (fun d K => c71_1 d.2.1.2.1 (fun (y0 : ByteArray) => K [.lf (.str y0)] [some ⟨d.2.1.1, [.seq (.int .u8) 0 d.2.1.2.1]⟩])) noS)), (73, (mkS sh73_1 (fun d K => c73_1 (fun (y0 : List Int) (y2 : List Int) => K [.lf (.ptr 0 0)] [some ⟨false, [.seq (.int .u32) 8 y0, .full 1, .int .u64 0]⟩, some ⟨false, [.seq (.int .u8) 0 y2]⟩])) noS)), (74, (mkS sh74_1 (fun d K => c74_1 d.2.1.2.1 d.2.1.2.2.2.1 d.2.2.1.2.1 d.2.2.2.1.2.1 (fun (y0 : List Int) (y1 : Int) (y3 : List Int) => K [] [some ⟨false, [.seq (.int .u32) 8 y0, .full 3, .int .u64 y1]⟩, none, some ⟨d.2.2.2.1.1, [.seq (.int .u8) 0 d.2.2.2.1.2.1]⟩, some ⟨false, [.seq (.int .u8) 0 y3]⟩])) noS)), (75, (mkS sh75_1 (fun d K => c75_1 d.2.1.2.1 d.2.1.2.2.2.1 d.2.2.1.2.1 (fun (y0 : ByteArray) => K [.lf (.str y0)] [some ⟨d.2.1.1, [.seq (.int .u32) 8 d.2.1.2.1, .full 1, .int .u64 d.2.1.2.2.2.1]⟩, some ⟨d.2.2.1.1, [.seq (.int .u8) 0 d.2.2.1.2.1]⟩])) noS)), (76, (mkS sh76_1 (fun d K => c76_1 d.2.1.2.1 d.2.1.2.2.2.1 d.2.2.1.2.1 (K [.lf (.int .u64 d.2.1.2.2.2.1)] [some ⟨d.2.1.1, [.seq (.int .u32) 8 d.2.1.2.1, .full 1, .int .u64 d.2.1.2.2.2.1]⟩, some ⟨d.2.2.1.1, [.seq (.int .u8) 0 d.2.2.1.2.1]⟩])) noS))]) (xw []) 30 0 (ltab []) code70 Try.f70.results.toList (encT sh70_1.vs d.1) (encH sh70_1.h d.2) K = (fun (K0 : (Bool → Option Res)) => c73_1  (fun x1 x2 => c74_1 x1 0 x2 [97, 98, 99] (fun x3 x4 x5 => c75_1 x3 x4 x5 (fun x6 => cond ((x6.size : Int) == 32) (cond (decide ((0 : Int) ≤ (0 : Int) ∧ (0 : Int) ≤ (4 : Int) ∧ (4 : Int) ≤ (x6.size : Int))) (cond ((x6.extract 0 4).toList == (⟨#[186, 120, 22, 191]⟩ : ByteArray).toList) (c71_1 [97, 98, 99] (fun x7 => cond (x7.toList == x6.toList) (c76_1 x3 x4 x5 (K0 (x4 == 3)) ) (K0 false)) ) (K0 false)) none) (K0 false)) ) ) ) (fun (y0 : Bool) => K [.lf (.bool y0)] []) := by kernel_rfl
theorem E70_1 (F : Nat) (d : sh70_1.den) (K : KF) : evBody Try.prog (T70_1 F) (xw []) 30 0 (LT70_1 F) code70 Try.f70.results.toList (encT sh70_1.vs d.1) (encH sh70_1.h d.2) K = f70_1 F (fun (y0 : Bool) => K [.lf (.bool y0)] []) := Eq.mp (by kernel_rfl) (E70_1g F (f71_1 F) (f73_1 F) (f74_1 F) (f75_1 F) (f76_1 F)   d K)
theorem S70_1_ok (F : Nat) (o : Summ) (ho : SoundFn Try.prog 70 o) : SoundFn Try.prog 70 (S70_1 F o) :=
  soundFn_of (fn := Try.f70) (c := code70) rfl rfl (by kernel_rfl) (tab_cons (S71_1_ok F _ (noS_sound enter71)) (tab_cons (S73_1_ok F _ (noS_sound enter73)) (tab_cons (S74_1_ok F _ (noS_sound enter74)) (tab_cons (S75_1_ok F _ (noS_sound enter75)) (tab_cons (S76_1_ok F _ (noS_sound enter76)) tab_nil))))) (by kernel_rfl) (by kernel_rfl) ho (by rw [loops70]; exact loopsOK_nil) (by rw [scopes70]; exact scopesOK_nil) (by rw [ranges70]; exact rangesOK_nil) (E70_1 F)
end Go.Proofs.Ytlokielmpdjedaa.X
end

section
namespace Go.Proofs.Ytlokielmpdjedaa.X
open Go Go.Proofs.Ytlokielmpdjedaa.Ev Go.Proofs
set_option linter.unusedVariables false
set_option linter.unusedSectionVars false
/-! pentimentoref03.first -/
noncomputable def f90_1 {β : Type} (F : Nat)  (K0 : List Int → Option β) : Option β := K0 [1779033703, 3144134277, 1013904242, 2773480762, 1359893119, 2600822924, 528734635, 1541459225]
variable [FZ]
def sh90_1 : Sh := ⟨[], []⟩
noncomputable def S90_1 (F : Nat) (o : Summ) : Summ := mkS sh90_1 (fun d K => f90_1 F (fun (y0 : List Int) => K [.agg [.seq (.int .u32) 8 y0]] [])) o
noncomputable def code90 : Code := bodyOf Try.f90
theorem scopes90 : scopesOf code90 = [] := by kernel_rfl
theorem ranges90 : rangesOf code90 = [] := by kernel_rfl
theorem loops90 : loopsOf code90 = [] := by kernel_rfl
theorem enter90 : ∀ args w, (callFunc 90 args).run Try.prog w = .ok (.enter 90 args) w := enter_of (fn := Try.f90) (by kernel_rfl) (by kernel_rfl) (by kernel_rfl)
noncomputable def T90_1 (F : Nat) : FuncId → Option Summ := tab []
noncomputable def LT90_1 (F : Nat) : Nat → Option LoopS := ltab []
theorem E90_1g (F : Nat)    (d : sh90_1.den) (K : KF) : evBody Try.prog (tab []) (xw []) 2 0 (ltab []) code90 Try.f90.results.toList (encT sh90_1.vs d.1) (encH sh90_1.h d.2) K = (fun (K0 : (List Int → Option Res)) => K0 [1779033703, 3144134277, 1013904242, 2773480762, 1359893119, 2600822924, 528734635, 1541459225]) (fun (y0 : List Int) => K [.agg [.seq (.int .u32) 8 y0]] []) := by kernel_rfl
theorem E90_1 (F : Nat) (d : sh90_1.den) (K : KF) : evBody Try.prog (T90_1 F) (xw []) 2 0 (LT90_1 F) code90 Try.f90.results.toList (encT sh90_1.vs d.1) (encH sh90_1.h d.2) K = f90_1 F (fun (y0 : List Int) => K [.agg [.seq (.int .u32) 8 y0]] []) := Eq.mp (by kernel_rfl) (E90_1g F    d K)
theorem S90_1_ok (F : Nat) (o : Summ) (ho : SoundFn Try.prog 90 o) : SoundFn Try.prog 90 (S90_1 F o) :=
  soundFn_of (fn := Try.f90) (c := code90) rfl rfl (by kernel_rfl) tab_nil (by kernel_rfl) (by kernel_rfl) ho (by rw [loops90]; exact loopsOK_nil) (by rw [scopes90]; exact scopesOK_nil) (by rw [ranges90]; exact rangesOK_nil) (E90_1 F)
end Go.Proofs.Ytlokielmpdjedaa.X
end

section
namespace Go.Proofs.Ytlokielmpdjedaa.X
open Go Go.Proofs.Ytlokielmpdjedaa.Ev Go.Proofs
set_option linter.unusedVariables false
set_option linter.unusedSectionVars false
/-! pentimentoref03.constants -/
noncomputable def f91_1 {β : Type} (F : Nat)  (K0 : List Int → Option β) : Option β := K0 [1116352408, 1899447441, 3049323471, 3921009573, 961987163, 1508970993, 2453635748, 2870763221, 3624381080, 310598401, 607225278, 1426881987, 1925078388, 2162078206, 2614888103, 3248222580, 3835390401, 4022224774, 264347078, 604807628, 770255983, 1249150122, 1555081692, 1996064986, 2554220882, 2821834349, 2952996808, 3210313671, 3336571891, 3584528711, 113926993, 338241895, 666307205, 773529912, 1294757372, 1396182291, 1695183700, 1986661051, 2177026350, 2456956037, 2730485921, 2820302411, 3259730800, 3345764771, 3516065817, 3600352804, 4094571909, 275423344, 430227734, 506948616, 659060556, 883997877, 958139571, 1322822218, 1537002063, 1747873779, 1955562222, 2024104815, 2227730452, 2361852424, 2428436474, 2756734187, 3204031479, 3329325298]
variable [FZ]
def sh91_1 : Sh := ⟨[], []⟩
noncomputable def S91_1 (F : Nat) (o : Summ) : Summ := mkS sh91_1 (fun d K => f91_1 F (fun (y0 : List Int) => K [.lf (.full 0)] [some ⟨false, [.seq (.int .u32) 0 y0]⟩])) o
noncomputable def code91 : Code := bodyOf Try.f91
theorem scopes91 : scopesOf code91 = [] := by kernel_rfl
theorem ranges91 : rangesOf code91 = [] := by kernel_rfl
theorem loops91 : loopsOf code91 = [] := by kernel_rfl
theorem enter91 : ∀ args w, (callFunc 91 args).run Try.prog w = .ok (.enter 91 args) w := enter_of (fn := Try.f91) (by kernel_rfl) (by kernel_rfl) (by kernel_rfl)
noncomputable def T91_1 (F : Nat) : FuncId → Option Summ := tab []
noncomputable def LT91_1 (F : Nat) : Nat → Option LoopS := ltab []
theorem E91_1g (F : Nat)    (d : sh91_1.den) (K : KF) : evBody Try.prog (tab []) (xw []) 2 0 (ltab []) code91 Try.f91.results.toList (encT sh91_1.vs d.1) (encH sh91_1.h d.2) K = (fun (K0 : (List Int → Option Res)) => K0 [1116352408, 1899447441, 3049323471, 3921009573, 961987163, 1508970993, 2453635748, 2870763221, 3624381080, 310598401, 607225278, 1426881987, 1925078388, 2162078206, 2614888103, 3248222580, 3835390401, 4022224774, 264347078, 604807628, 770255983, 1249150122, 1555081692, 1996064986, 2554220882, 2821834349, 2952996808, 3210313671, 3336571891, 3584528711, 113926993, 338241895, 666307205, 773529912, 1294757372, 1396182291, 1695183700, 1986661051, 2177026350, 2456956037, 2730485921, 2820302411, 3259730800, 3345764771, 3516065817, 3600352804, 4094571909, 275423344, 430227734, 506948616, 659060556, 883997877, 958139571, 1322822218, 1537002063, 1747873779, 1955562222, 2024104815, 2227730452, 2361852424, 2428436474, 2756734187, 3204031479, 3329325298]) (fun (y0 : List Int) => K [.lf (.full 0)] [some ⟨false, [.seq (.int .u32) 0 y0]⟩]) := by kernel_rfl
theorem E91_1 (F : Nat) (d : sh91_1.den) (K : KF) : evBody Try.prog (T91_1 F) (xw []) 2 0 (LT91_1 F) code91 Try.f91.results.toList (encT sh91_1.vs d.1) (encH sh91_1.h d.2) K = f91_1 F (fun (y0 : List Int) => K [.lf (.full 0)] [some ⟨false, [.seq (.int .u32) 0 y0]⟩]) := Eq.mp (by kernel_rfl) (E91_1g F    d K)
theorem S91_1_ok (F : Nat) (o : Summ) (ho : SoundFn Try.prog 91 o) : SoundFn Try.prog 91 (S91_1 F o) :=
  soundFn_of (fn := Try.f91) (c := code91) rfl rfl (by kernel_rfl) tab_nil (by kernel_rfl) (by kernel_rfl) ho (by rw [loops91]; exact loopsOK_nil) (by rw [scopes91]; exact scopesOK_nil) (by rw [ranges91]; exact rangesOK_nil) (E91_1 F)
end Go.Proofs.Ytlokielmpdjedaa.X
end

section
namespace Go.Proofs.Ytlokielmpdjedaa.X
open Go Go.Proofs.Ytlokielmpdjedaa.Ev Go.Proofs
set_option linter.unusedVariables false
set_option linter.unusedSectionVars false
/-! pentimentoref03.Sum -/
noncomputable def f72_1_l4 {β : Type} (F : Nat) (v1 : List Int) (K0 : List Int → Option β) : Nat → List Int → Option β
  | 0, _ => none
  | k + 1, v2 => cond ((((v2.length : Nat) : Int).tmod 64) != 56) (cond (decide ((v2.length + 1) * 1 ≤ 70368744177664)) (f72_1_l4 F v1 K0 k (v2 ++ [0])) none) (K0 v2)
noncomputable def f72_1_l8 {β : Type} (F : Nat) (v4 : Int) (v6 : List Int) (K0 : List Int → Option β) : Nat → Int → List Int → Option β
  | 0, _, _ => none
  | k + 1, v5, v7 => cond (decide (v5 ≥ 0)) (cond (decide (IntKind.u64.wrap (IntKind.i64.wrap (8 * v5)) < 0)) none (cond (decide ((v7.length + 1) * 1 ≤ 70368744177664)) (f72_1_l8 F v4 v6 K0 k (IntKind.i64.wrap (v5 - 1)) (v7 ++ [IntKind.u8.wrap (ishr .u64 v4 (IntKind.u64.wrap (IntKind.i64.wrap (8 * v5))))])) none)) (K0 v7)
noncomputable def f72_1_l14 {β : Type} (F : Nat) (v12 : List Int) (v13 : List Int) (v15 : List Int) (K0 : List Int → Option β) : Nat → Int → List Int → Option β
  | 0, _, _ => none
  | k + 1, v11, v14 => cond (decide (IntKind.i64.wrap (v11 + 64) ≤ ((v13.length : Nat) : Int))) (cond (decide ((0 : Int) ≤ v11 ∧ v11 ≤ IntKind.i64.wrap (v11 + 64) ∧ IntKind.i64.wrap (v11 + 64) ≤ ((v13.length : Nat) : Int))) (f92_1 F v14 v15 ((v13.drop (0 + v11.toNat)).take ((IntKind.i64.wrap (v11 + 64) - v11).toNat)) (fun x16 => f72_1_l14 F v12 v13 v15 K0 k (IntKind.i64.wrap (v11 + 64)) x16) ) none) (K0 v14)
noncomputable def f72_1_l19 {β : Type} (F : Nat) (v19 : List Int) (v20 : List Int) (K0 : List Int → Option β) : Nat → Int → List Int → Option β
  | 0, _, _ => none
  | k + 1, v18, v21 => cond (decide (v18 < 8)) (cond (decide ((0 : Int) ≤ v18 ∧ v18 < 8)) (cond (decide (v18.toNat < v20.length)) (cond (decide ((0 : Int) ≤ v18 ∧ v18 < 8)) (cond (decide (v18.toNat < v20.length)) (cond (decide ((0 : Int) ≤ v18 ∧ v18 < 8)) (cond (decide (v18.toNat < v20.length)) (cond (decide ((0 : Int) ≤ v18 ∧ v18 < 8)) (cond (decide (v18.toNat < v20.length)) (cond (decide ((v21.length + 4) * 1 ≤ 70368744177664)) (f72_1_l19 F v19 v20 K0 k (IntKind.i64.wrap (v18 + 1)) (v21 ++ [IntKind.u8.wrap (ishr .u32 (v20.getD v18.toNat 0) 24), IntKind.u8.wrap (ishr .u32 (v20.getD v18.toNat 0) 16), IntKind.u8.wrap (ishr .u32 (v20.getD v18.toNat 0) 8), IntKind.u8.wrap (v20.getD v18.toNat 0)])) none) none) none) none) none) none) none) none) none) (K0 v21)
noncomputable def f72_1 {β : Type} (F : Nat) (a1 : List Int) (K0 : ByteArray → Option β) : Option β := cond (decide (a1.length * 1 ≤ 70368744177664)) (cond (decide ((a1.length + 1) * 1 ≤ 70368744177664)) (f72_1_l4 F a1 (fun x3 => f72_1_l8 F (IntKind.u64.wrap ((IntKind.u64.wrap ((a1.length : Nat) : Int)) * 8)) a1 (fun x8 => f90_1 F  (fun x9 => f91_1 F  (fun x10 => f72_1_l14 F a1 x8 x10 (fun x17 => f72_1_l19 F a1 x17 (fun x22 => K0 (ofInts x22)) F 0 []) F 0 x9) ) ) F 7 x3) F (a1 ++ [128])) none) none
variable [FZ]
def sh72_1 : Sh := ⟨[.lf (.full 0)], [some ⟨none, [.seq (.int .u8) 0]⟩]⟩
noncomputable def S72_1 (F : Nat) (o : Summ) : Summ := mkS sh72_1 (fun d K => f72_1 F d.2.1.2.1 (fun (y0 : ByteArray) => K [.lf (.str y0)] [some ⟨d.2.1.1, [.seq (.int .u8) 0 d.2.1.2.1]⟩])) o
noncomputable def code72 : Code := bodyOf Try.f72
noncomputable def b72_0 : Code := cB (cB (cL (cR (cR (cR (cR (code72)))))))
noncomputable def b72_1 : Code := cB (cB (cR (cL (cR (cR (cR (cR (cR (cR (code72))))))))))
noncomputable def b72_2 : Code := cB (cB (cR (cL (cR (cR (cR (cR (cR (cR (cR (cR (cR (code72)))))))))))))
noncomputable def b72_3 : Code := cB (cB (cR (cL (cR (cR (cR (cR (cR (cR (cR (cR (cR (cR (cR (code72)))))))))))))))
theorem scopes72 : scopesOf code72 = [] := by kernel_rfl
theorem ranges72 : rangesOf code72 = [] := by kernel_rfl
theorem loops72 : loopsOf code72 = [b72_0, b72_1, b72_2, b72_3] := by kernel_rfl
theorem enter72 : ∀ args w, (callFunc 72 args).run Try.prog w = .ok (.enter 72 args) w := enter_of (fn := Try.f72) (by kernel_rfl) (by kernel_rfl) (by kernel_rfl)
noncomputable def T72_1 (F : Nat) : FuncId → Option Summ := tab [(90, (S90_1 F noS)), (91, (S91_1 F noS)), (92, (S92_1 F noS))]
def sh72_1_l4 : Sh := ⟨[.lf (.full 0), .lf (.full 1)], [some ⟨none, [.seq (.int .u8) 0]⟩, some ⟨some false, [.seq (.int .u8) 0]⟩]⟩
def sh72_1_l8 : Sh := ⟨[.lf (.full 1), .lf (.int .u64), .lf (.int .i64)], [some ⟨none, [.seq (.int .u8) 0]⟩, some ⟨some false, [.seq (.int .u8) 0]⟩]⟩
def sh72_1_l14 : Sh := ⟨[.lf (.full 1), .lf (.ptr 2 0), .lf (.full 3), .lf (.int .i64)], [some ⟨none, [.seq (.int .u8) 0]⟩, some ⟨some false, [.seq (.int .u8) 0]⟩, some ⟨some false, [.seq (.int .u32) 8]⟩, some ⟨some false, [.seq (.int .u32) 0]⟩]⟩
def sh72_1_l19 : Sh := ⟨[.lf (.ptr 1 0), .lf (.full 2), .lf (.int .i64)], [some ⟨none, [.seq (.int .u8) 0]⟩, some ⟨some false, [.seq (.int .u32) 8]⟩, some ⟨some false, [.seq (.int .u8) 0]⟩]⟩
noncomputable def G72_1_4 (F k : Nat) : LoopS := mkG sh72_1_l4 [0, 3] (outT [(.exit 0, [0, 3])]) (fun d K => f72_1_l4 F d.2.1.2.1 (fun (y1 : List Int) => K (.exit 0) [.tv (.lf (.full 0)), .tv (.lf (.full 1))] [some ⟨d.2.1.1, [.seq (.int .u8) 0 d.2.1.2.1]⟩, some ⟨false, [.seq (.int .u8) 0 y1]⟩]) k d.2.2.1.2.1) []
noncomputable def G72_1_8 (F k : Nat) : LoopS := mkG sh72_1_l8 [3, 4, 5] (outT [(.exit 2, [3])]) (fun d K => f72_1_l8 F d.1.2.1 d.2.1.2.1 (fun (y1 : List Int) => K (.exit 2) [.tv (.lf (.full 1))] [some ⟨d.2.1.1, [.seq (.int .u8) 0 d.2.1.2.1]⟩, some ⟨false, [.seq (.int .u8) 0 y1]⟩]) k d.1.2.2.1 d.2.2.1.2.1) []
noncomputable def G72_1_14 (F k : Nat) : LoopS := mkG sh72_1_l14 [3, 6, 7, 8] (outT [(.exit 4, [6])]) (fun d K => f72_1_l14 F d.2.1.2.1 d.2.2.1.2.1 d.2.2.2.2.1.2.1 (fun (y2 : List Int) => K (.exit 4) [.tv (.lf (.ptr 2 0))] [some ⟨d.2.1.1, [.seq (.int .u8) 0 d.2.1.2.1]⟩, some ⟨false, [.seq (.int .u8) 0 d.2.2.1.2.1]⟩, some ⟨false, [.seq (.int .u32) 8 y2]⟩, some ⟨false, [.seq (.int .u32) 0 d.2.2.2.2.1.2.1]⟩]) k d.1.2.2.2.1 d.2.2.2.1.2.1) []
noncomputable def G72_1_19 (F k : Nat) : LoopS := mkG sh72_1_l19 [6, 9, 10] (outT [(.exit 6, [9])]) (fun d K => f72_1_l19 F d.2.1.2.1 d.2.2.1.2.1 (fun (y2 : List Int) => K (.exit 6) [.tv (.lf (.full 2))] [some ⟨d.2.1.1, [.seq (.int .u8) 0 d.2.1.2.1]⟩, some ⟨false, [.seq (.int .u32) 8 d.2.2.1.2.1]⟩, some ⟨false, [.seq (.int .u8) 0 y2]⟩]) k d.1.2.2.1 d.2.2.2.1.2.1) []
noncomputable def LT72_1 (F : Nat) : Nat → Option LoopS := ltab [(4, G72_1_4 F F), (8, G72_1_8 F F), (14, G72_1_14 F F), (19, G72_1_19 F F)]
theorem L72_1_l4g (F k : Nat) (c90_1 : (List Int → Option Res) → Option Res) (c91_1 : (List Int → Option Res) → Option Res) (c92_1 : List Int → List Int → List Int → (List Int → Option Res) → Option Res)  (l4 : List Int → (List Int → Option Res) → Nat → List Int → Option Res) (X4 : LoopS) (X8 : LoopS) (X14 : LoopS) (X19 : LoopS) (d : sh72_1_l4.den) (K : KL) : (fun (v1 : List Int) (K0 : (List Int → Option Res)) (k : Nat) (v2 : List Int) => cond ((((v2.length : Nat) : Int).tmod 64) != 56) (cond (decide ((v2.length + 1) * 1 ≤ 70368744177664)) (l4 v1 K0 k (v2 ++ [0])) none) (K0 v2)) d.2.1.2.1 (fun (y1 : List Int) => K (.exit 0) [.tv (.lf (.full 0)), .tv (.lf (.full 1))] [some ⟨d.2.1.1, [.seq (.int .u8) 0 d.2.1.2.1]⟩, some ⟨false, [.seq (.int .u8) 0 y1]⟩]) k d.2.2.1.2.1 = roundOf Try.prog (tab [(90, (mkS sh90_1 (fun d K => c90_1 (fun (y0 : List Int) => K [.agg [.seq (.int .u32) 8 y0]] [])) noS)), (91, (mkS sh91_1 (fun d K => c91_1 (fun (y0 : List Int) => K [.lf (.full 0)] [some ⟨false, [.seq (.int .u32) 0 y0]⟩])) noS)), (92, (mkS sh92_1 (fun d K => c92_1 d.1.1.1 d.2.1.2.1 d.2.2.1.2.1 (fun (y0 : List Int) => K [.agg [.seq (.int .u32) 8 y0]] [some ⟨d.2.1.1, [.seq (.int .u32) 0 d.2.1.2.1]⟩, some ⟨d.2.2.1.1, [.seq (.int .u8) 0 d.2.2.1.2.1]⟩])) noS))]) (xw []) 86 1 (ltab [(4, X4), (8, X8), (14, X14), (19, X19)]) (mkG sh72_1_l4 [0, 3] (outT [(.exit 0, [0, 3])]) (fun d K => l4 d.2.1.2.1 (fun (y1 : List Int) => K (.exit 0) [.tv (.lf (.full 0)), .tv (.lf (.full 1))] [some ⟨d.2.1.1, [.seq (.int .u8) 0 d.2.1.2.1]⟩, some ⟨false, [.seq (.int .u8) 0 y1]⟩]) k d.2.2.1.2.1) []) b72_0 (encT sh72_1_l4.vs d.1) (encH sh72_1_l4.h d.2) K := by kernel_rfl
theorem L72_1_4 (F : Nat) : LoopOK Try.prog (T72_1 F) (xw []) 86 1 (LT72_1 F) (G72_1_4 F F) b72_0 :=
  loopOK_of (s := sh72_1_l4) (live := [0, 3]) (out := (outT [(.exit 0, [0, 3])])) (mv := []) (fun k d K => f72_1_l4 F d.2.1.2.1 (fun (y1 : List Int) => K (.exit 0) [.tv (.lf (.full 0)), .tv (.lf (.full 1))] [some ⟨d.2.1.1, [.seq (.int .u8) 0 d.2.1.2.1]⟩, some ⟨false, [.seq (.int .u8) 0 y1]⟩]) k d.2.2.1.2.1) F (fun d K => by kernel_rfl)  (fun k d K => Eq.mp (by kernel_rfl) (L72_1_l4g F k (f90_1 F) (f91_1 F) (f92_1 F)  (f72_1_l4 F) (G72_1_4 F F) (G72_1_8 F F) (G72_1_14 F F) (G72_1_19 F F) d K))
theorem L72_1_l8g (F k : Nat) (c90_1 : (List Int → Option Res) → Option Res) (c91_1 : (List Int → Option Res) → Option Res) (c92_1 : List Int → List Int → List Int → (List Int → Option Res) → Option Res)  (l8 : Int → List Int → (List Int → Option Res) → Nat → Int → List Int → Option Res) (X4 : LoopS) (X8 : LoopS) (X14 : LoopS) (X19 : LoopS) (d : sh72_1_l8.den) (K : KL) : (fun (v4 : Int) (v6 : List Int) (K0 : (List Int → Option Res)) (k : Nat) (v5 : Int) (v7 : List Int) => cond (decide (v5 ≥ 0)) (cond (decide (IntKind.u64.wrap (IntKind.i64.wrap (8 * v5)) < 0)) none (cond (decide ((v7.length + 1) * 1 ≤ 70368744177664)) (l8 v4 v6 K0 k (IntKind.i64.wrap (v5 - 1)) (v7 ++ [IntKind.u8.wrap (ishr .u64 v4 (IntKind.u64.wrap (IntKind.i64.wrap (8 * v5))))])) none)) (K0 v7)) d.1.2.1 d.2.1.2.1 (fun (y1 : List Int) => K (.exit 2) [.tv (.lf (.full 1))] [some ⟨d.2.1.1, [.seq (.int .u8) 0 d.2.1.2.1]⟩, some ⟨false, [.seq (.int .u8) 0 y1]⟩]) k d.1.2.2.1 d.2.2.1.2.1 = roundOf Try.prog (tab [(90, (mkS sh90_1 (fun d K => c90_1 (fun (y0 : List Int) => K [.agg [.seq (.int .u32) 8 y0]] [])) noS)), (91, (mkS sh91_1 (fun d K => c91_1 (fun (y0 : List Int) => K [.lf (.full 0)] [some ⟨false, [.seq (.int .u32) 0 y0]⟩])) noS)), (92, (mkS sh92_1 (fun d K => c92_1 d.1.1.1 d.2.1.2.1 d.2.2.1.2.1 (fun (y0 : List Int) => K [.agg [.seq (.int .u32) 8 y0]] [some ⟨d.2.1.1, [.seq (.int .u32) 0 d.2.1.2.1]⟩, some ⟨d.2.2.1.1, [.seq (.int .u8) 0 d.2.2.1.2.1]⟩])) noS))]) (xw []) 86 1 (ltab [(4, X4), (8, X8), (14, X14), (19, X19)]) (mkG sh72_1_l8 [3, 4, 5] (outT [(.exit 2, [3])]) (fun d K => l8 d.1.2.1 d.2.1.2.1 (fun (y1 : List Int) => K (.exit 2) [.tv (.lf (.full 1))] [some ⟨d.2.1.1, [.seq (.int .u8) 0 d.2.1.2.1]⟩, some ⟨false, [.seq (.int .u8) 0 y1]⟩]) k d.1.2.2.1 d.2.2.1.2.1) []) b72_1 (encT sh72_1_l8.vs d.1) (encH sh72_1_l8.h d.2) K := by kernel_rfl
theorem L72_1_8 (F : Nat) : LoopOK Try.prog (T72_1 F) (xw []) 86 1 (LT72_1 F) (G72_1_8 F F) b72_1 :=
  loopOK_of (s := sh72_1_l8) (live := [3, 4, 5]) (out := (outT [(.exit 2, [3])])) (mv := []) (fun k d K => f72_1_l8 F d.1.2.1 d.2.1.2.1 (fun (y1 : List Int) => K (.exit 2) [.tv (.lf (.full 1))] [some ⟨d.2.1.1, [.seq (.int .u8) 0 d.2.1.2.1]⟩, some ⟨false, [.seq (.int .u8) 0 y1]⟩]) k d.1.2.2.1 d.2.2.1.2.1) F (fun d K => by kernel_rfl)  (fun k d K => Eq.mp (by kernel_rfl) (L72_1_l8g F k (f90_1 F) (f91_1 F) (f92_1 F)  (f72_1_l8 F) (G72_1_4 F F) (G72_1_8 F F) (G72_1_14 F F) (G72_1_19 F F) d K))
theorem L72_1_l14g (F k : Nat) (c90_1 : (List Int → Option Res) → Option Res) (c91_1 : (List Int → Option Res) → Option Res) (c92_1 : List Int → List Int → List Int → (List Int → Option Res) → Option Res)  (l14 : List Int → List Int → List Int → (List Int → Option Res) → Nat → Int → List Int → Option Res) (X4 : LoopS) (X8 : LoopS) (X14 : LoopS) (X19 : LoopS) (d : sh72_1_l14.den) (K : KL) : (fun (v12 : List Int) (v13 : List Int) (v15 : List Int) (K0 : (List Int → Option Res)) (k : Nat) (v11 : Int) (v14 : List Int) => cond (decide (IntKind.i64.wrap (v11 + 64) ≤ ((v13.length : Nat) : Int))) (cond (decide ((0 : Int) ≤ v11 ∧ v11 ≤ IntKind.i64.wrap (v11 + 64) ∧ IntKind.i64.wrap (v11 + 64) ≤ ((v13.length : Nat) : Int))) (c92_1 v14 v15 ((v13.drop (0 + v11.toNat)).take ((IntKind.i64.wrap (v11 + 64) - v11).toNat)) (fun x16 => l14 v12 v13 v15 K0 k (IntKind.i64.wrap (v11 + 64)) x16) ) none) (K0 v14)) d.2.1.2.1 d.2.2.1.2.1 d.2.2.2.2.1.2.1 (fun (y2 : List Int) => K (.exit 4) [.tv (.lf (.ptr 2 0))] [some ⟨d.2.1.1, [.seq (.int .u8) 0 d.2.1.2.1]⟩, some ⟨false, [.seq (.int .u8) 0 d.2.2.1.2.1]⟩, some ⟨false, [.seq (.int .u32) 8 y2]⟩, some ⟨false, [.seq (.int .u32) 0 d.2.2.2.2.1.2.1]⟩]) k d.1.2.2.2.1 d.2.2.2.1.2.1 = roundOf Try.prog (tab [(90, (mkS sh90_1 (fun d K => c90_1 (fun (y0 : List Int) => K [.agg [.seq (.int .u32) 8 y0]] [])) noS)), (91, (mkS sh91_1 (fun d K => c91_1 (fun (y0 : List Int) => K [.lf (.full 0)] [some ⟨false, [.seq (.int .u32) 0 y0]⟩])) noS)), (92, (mkS sh92_1 (fun d K => c92_1 d.1.1.1 d.2.1.2.1 d.2.2.1.2.1 (fun (y0 : List Int) => K [.agg [.seq (.int .u32) 8 y0]] [some ⟨d.2.1.1, [.seq (.int .u32) 0 d.2.1.2.1]⟩, some ⟨d.2.2.1.1, [.seq (.int .u8) 0 d.2.2.1.2.1]⟩])) noS))]) (xw []) 86 1 (ltab [(4, X4), (8, X8), (14, X14), (19, X19)]) (mkG sh72_1_l14 [3, 6, 7, 8] (outT [(.exit 4, [6])]) (fun d K => l14 d.2.1.2.1 d.2.2.1.2.1 d.2.2.2.2.1.2.1 (fun (y2 : List Int) => K (.exit 4) [.tv (.lf (.ptr 2 0))] [some ⟨d.2.1.1, [.seq (.int .u8) 0 d.2.1.2.1]⟩, some ⟨false, [.seq (.int .u8) 0 d.2.2.1.2.1]⟩, some ⟨false, [.seq (.int .u32) 8 y2]⟩, some ⟨false, [.seq (.int .u32) 0 d.2.2.2.2.1.2.1]⟩]) k d.1.2.2.2.1 d.2.2.2.1.2.1) []) b72_2 (encT sh72_1_l14.vs d.1) (encH sh72_1_l14.h d.2) K := by kernel_rfl
theorem L72_1_14 (F : Nat) : LoopOK Try.prog (T72_1 F) (xw []) 86 1 (LT72_1 F) (G72_1_14 F F) b72_2 :=
  loopOK_of (s := sh72_1_l14) (live := [3, 6, 7, 8]) (out := (outT [(.exit 4, [6])])) (mv := []) (fun k d K => f72_1_l14 F d.2.1.2.1 d.2.2.1.2.1 d.2.2.2.2.1.2.1 (fun (y2 : List Int) => K (.exit 4) [.tv (.lf (.ptr 2 0))] [some ⟨d.2.1.1, [.seq (.int .u8) 0 d.2.1.2.1]⟩, some ⟨false, [.seq (.int .u8) 0 d.2.2.1.2.1]⟩, some ⟨false, [.seq (.int .u32) 8 y2]⟩, some ⟨false, [.seq (.int .u32) 0 d.2.2.2.2.1.2.1]⟩]) k d.1.2.2.2.1 d.2.2.2.1.2.1) F (fun d K => by kernel_rfl)  (fun k d K => Eq.mp (by kernel_rfl) (L72_1_l14g F k (f90_1 F) (f91_1 F) (f92_1 F)  (f72_1_l14 F) (G72_1_4 F F) (G72_1_8 F F) (G72_1_14 F F) (G72_1_19 F F) d K))
theorem L72_1_l19g (F k : Nat) (c90_1 : (List Int → Option Res) → Option Res) (c91_1 : (List Int → Option Res) → Option Res) (c92_1 : List Int → List Int → List Int → (List Int → Option Res) → Option Res)  (l19 : List Int → List Int → (List Int → Option Res) → Nat → Int → List Int → Option Res) (X4 : LoopS) (X8 : LoopS) (X14 : LoopS) (X19 : LoopS) (d : sh72_1_l19.den) (K : KL) : (fun (v19 : List Int) (v20 : List Int) (K0 : (List Int → Option Res)) (k : Nat) (v18 : Int) (v21 : List Int) => cond (decide (v18 < 8)) (cond (decide ((0 : Int) ≤ v18 ∧ v18 < 8)) (cond (decide (v18.toNat < v20.length)) (cond (decide ((0 : Int) ≤ v18 ∧ v18 < 8)) (cond (decide (v18.toNat < v20.length)) (cond (decide ((0 : Int) ≤ v18 ∧ v18 < 8)) (cond (decide (v18.toNat < v20.length)) (cond (decide ((0 : Int) ≤ v18 ∧ v18 < 8)) (cond (decide (v18.toNat < v20.length)) (cond (decide ((v21.length + 4) * 1 ≤ 70368744177664)) (l19 v19 v20 K0 k (IntKind.i64.wrap (v18 + 1)) (v21 ++ [IntKind.u8.wrap (ishr .u32 (v20.getD v18.toNat 0) 24), IntKind.u8.wrap (ishr .u32 (v20.getD v18.toNat 0) 16), IntKind.u8.wrap (ishr .u32 (v20.getD v18.toNat 0) 8), IntKind.u8.wrap (v20.getD v18.toNat 0)])) none) none) none) none) none) none) none) none) none) (K0 v21)) d.2.1.2.1 d.2.2.1.2.1 (fun (y2 : List Int) => K (.exit 6) [.tv (.lf (.full 2))] [some ⟨d.2.1.1, [.seq (.int .u8) 0 d.2.1.2.1]⟩, some ⟨false, [.seq (.int .u32) 8 d.2.2.1.2.1]⟩, some ⟨false, [.seq (.int .u8) 0 y2]⟩]) k d.1.2.2.1 d.2.2.2.1.2.1 = roundOf Try.prog (tab [(90, (mkS sh90_1 (fun d K => c90_1 (fun (y0 : List Int) => K [.agg [.seq (.int .u32) 8 y0]] [])) noS)), (91, (mkS sh91_1 (fun d K => c91_1 (fun (y0 : List Int) => K [.lf (.full 0)] [some ⟨false, [.seq (.int .u32) 0 y0]⟩])) noS)), (92, (mkS sh92_1 (fun d K => c92_1 d.1.1.1 d.2.1.2.1 d.2.2.1.2.1 (fun (y0 : List Int) => K [.agg [.seq (.int .u32) 8 y0]] [some ⟨d.2.1.1, [.seq (.int .u32) 0 d.2.1.2.1]⟩, some ⟨d.2.2.1.1, [.seq (.int .u8) 0 d.2.2.1.2.1]⟩])) noS))]) (xw []) 86 1 (ltab [(4, X4), (8, X8), (14, X14), (19, X19)]) (mkG sh72_1_l19 [6, 9, 10] (outT [(.exit 6, [9])]) (fun d K => l19 d.2.1.2.1 d.2.2.1.2.1 (fun (y2 : List Int) => K (.exit 6) [.tv (.lf (.full 2))] [some ⟨d.2.1.1, [.seq (.int .u8) 0 d.2.1.2.1]⟩, some ⟨false, [.seq (.int .u32) 8 d.2.2.1.2.1]⟩, some ⟨false, [.seq (.int .u8) 0 y2]⟩]) k d.1.2.2.1 d.2.2.2.1.2.1) []) b72_3 (encT sh72_1_l19.vs d.1) (encH sh72_1_l19.h d.2) K := by kernel_rfl
theorem L72_1_19 (F : Nat) : LoopOK Try.prog (T72_1 F) (xw []) 86 1 (LT72_1 F) (G72_1_19 F F) b72_3 :=
  loopOK_of (s := sh72_1_l19) (live := [6, 9, 10]) (out := (outT [(.exit 6, [9])])) (mv := []) (fun k d K => f72_1_l19 F d.2.1.2.1 d.2.2.1.2.1 (fun (y2 : List Int) => K (.exit 6) [.tv (.lf (.full 2))] [some ⟨d.2.1.1, [.seq (.int .u8) 0 d.2.1.2.1]⟩, some ⟨false, [.seq (.int .u32) 8 d.2.2.1.2.1]⟩, some ⟨false, [.seq (.int .u8) 0 y2]⟩]) k d.1.2.2.1 d.2.2.2.1.2.1) F (fun d K => by kernel_rfl)  (fun k d K => Eq.mp (by kernel_rfl) (L72_1_l19g F k (f90_1 F) (f91_1 F) (f92_1 F)  (f72_1_l19 F) (G72_1_4 F F) (G72_1_8 F F) (G72_1_14 F F) (G72_1_19 F F) d K))
theorem E72_1g (F : Nat) (c90_1 : (List Int → Option Res) → Option Res) (c91_1 : (List Int → Option Res) → Option Res) (c92_1 : List Int → List Int → List Int → (List Int → Option Res) → Option Res) (l4 : List Int → (List Int → Option Res) → Nat → List Int → Option Res) (l8 : Int → List Int → (List Int → Option Res) → Nat → Int → List Int → Option Res) (l14 : List Int → List Int → List Int → (List Int → Option Res) → Nat → Int → List Int → Option Res) (l19 : List Int → List Int → (List Int → Option Res) → Nat → Int → List Int → Option Res)  (d : sh72_1.den) (K : KF) : evBody Try.prog (tab [(90, (mkS sh90_1 (fun d K => c90_1 (fun (y0 : List Int) => K [.agg [.seq (.int .u32) 8 y0]] [])) noS)), (91, (mkS sh91_1 (fun d K => c91_1 (fun (y0 : List Int) => K [.lf (.full 0)] [some ⟨false, [.seq (.int .u32) 0 y0]⟩])) noS)), (92, (mkS sh92_1 (fun d K => c92_1 d.1.1.1 d.2.1.2.1 d.2.2.1.2.1 (fun (y0 : List Int) => K [.agg [.seq (.int .u32) 8 y0]] [some ⟨d.2.1.1, [.seq (.int .u32) 0 d.2.1.2.1]⟩, some ⟨d.2.2.1.1, [.seq (.int .u8) 0 d.2.2.1.2.1]⟩])) noS))]) (xw []) 86 1 (ltab [(4, mkG sh72_1_l4 [0, 3] (outT [(.exit 0, [0, 3])]) (fun d K => l4 d.2.1.2.1 (fun (y1 : List Int) => K (.exit 0) [.tv (.lf (.full 0)), .tv (.lf (.full 1))] [some ⟨d.2.1.1, [.seq (.int .u8) 0 d.2.1.2.1]⟩, some ⟨false, [.seq (.int .u8) 0 y1]⟩]) F d.2.2.1.2.1) []), (8, mkG sh72_1_l8 [3, 4, 5] (outT [(.exit 2, [3])]) (fun d K => l8 d.1.2.1 d.2.1.2.1 (fun (y1 : List Int) => K (.exit 2) [.tv (.lf (.full 1))] [some ⟨d.2.1.1, [.seq (.int .u8) 0 d.2.1.2.1]⟩, some ⟨false, [.seq (.int .u8) 0 y1]⟩]) F d.1.2.2.1 d.2.2.1.2.1) []), (14, mkG sh72_1_l14 [3, 6, 7, 8] (outT [(.exit 4, [6])]) (fun d K => l14 d.2.1.2.1 d.2.2.1.2.1 d.2.2.2.2.1.2.1 (fun (y2 : List Int) => K (.exit 4) [.tv (.lf (.ptr 2 0))] [some ⟨d.2.1.1, [.seq (.int .u8) 0 d.2.1.2.1]⟩, some ⟨false, [.seq (.int .u8) 0 d.2.2.1.2.1]⟩, some ⟨false, [.seq (.int .u32) 8 y2]⟩, some ⟨false, [.seq (.int .u32) 0 d.2.2.2.2.1.2.1]⟩]) F d.1.2.2.2.1 d.2.2.2.1.2.1) []), (19, mkG sh72_1_l19 [6, 9, 10] (outT [(.exit 6, [9])]) (fun d K => l19 d.2.1.2.1 d.2.2.1.2.1 (fun (y2 : List Int) => K (.exit 6) [.tv (.lf (.full 2))] [some ⟨d.2.1.1, [.seq (.int .u8) 0 d.2.1.2.1]⟩, some ⟨false, [.seq (.int .u32) 8 d.2.2.1.2.1]⟩, some ⟨false, [.seq (.int .u8) 0 y2]⟩]) F d.1.2.2.1 d.2.2.2.1.2.1) [])]) code72 Try.f72.results.toList (encT sh72_1.vs d.1) (encH sh72_1.h d.2) K = (fun (a1 : List Int) (K0 : (ByteArray → Option Res)) => cond (decide (a1.length * 1 ≤ 70368744177664)) (cond (decide ((a1.length + 1) * 1 ≤ 70368744177664)) (l4 a1 (fun x3 => l8 (IntKind.u64.wrap ((IntKind.u64.wrap ((a1.length : Nat) : Int)) * 8)) a1 (fun x8 => c90_1  (fun x9 => c91_1  (fun x10 => l14 a1 x8 x10 (fun x17 => l19 a1 x17 (fun x22 => K0 (ofInts x22)) F 0 []) F 0 x9) ) ) F 7 x3) F (a1 ++ [128])) none) none) d.2.1.2.1 (fun (y0 : ByteArray) => K [.lf (.str y0)] [some ⟨d.2.1.1, [.seq (.int .u8) 0 d.2.1.2.1]⟩]) := by kernel_rfl
theorem E72_1 (F : Nat) (d : sh72_1.den) (K : KF) : evBody Try.prog (T72_1 F) (xw []) 86 1 (LT72_1 F) code72 Try.f72.results.toList (encT sh72_1.vs d.1) (encH sh72_1.h d.2) K = f72_1 F d.2.1.2.1 (fun (y0 : ByteArray) => K [.lf (.str y0)] [some ⟨d.2.1.1, [.seq (.int .u8) 0 d.2.1.2.1]⟩]) := Eq.mp (by kernel_rfl) (E72_1g F (f90_1 F) (f91_1 F) (f92_1 F) (f72_1_l4 F) (f72_1_l8 F) (f72_1_l14 F) (f72_1_l19 F)  d K)
theorem S72_1_ok (F : Nat) (o : Summ) (ho : SoundFn Try.prog 72 o) : SoundFn Try.prog 72 (S72_1 F o) :=
  soundFn_of (fn := Try.f72) (c := code72) rfl rfl (by kernel_rfl) (tab_cons (S90_1_ok F _ (noS_sound enter90)) (tab_cons (S91_1_ok F _ (noS_sound enter91)) (tab_cons (S92_1_ok F _ (noS_sound enter92)) tab_nil))) (by kernel_rfl) (by kernel_rfl) ho (by rw [loops72]; exact (loopsOK_cons (by kernel_rfl) (L72_1_4 F) (loopsOK_cons (by kernel_rfl) (L72_1_8 F) (loopsOK_cons (by kernel_rfl) (L72_1_14 F) (loopsOK_cons (by kernel_rfl) (L72_1_19 F) loopsOK_nil))))) (by rw [scopes72]; exact scopesOK_nil) (by rw [ranges72]; exact rangesOK_nil) (E72_1 F)
end Go.Proofs.Ytlokielmpdjedaa.X
end

section
namespace Go.Proofs.Ytlokielmpdjedaa.X
open Go Go.Proofs.Ytlokielmpdjedaa.Ev Go.Proofs
set_option linter.unusedVariables false
set_option linter.unusedSectionVars false
/-! pentimentolaw03.ShaParts -/
noncomputable def f13_1_l4 [FZ] {β : Type} (F : Nat) (v4 : List (Sl (.int .u8))) (K0 : Bool → List Int → Int → List Int → List Int → Option β) (K1 : List Int → Int → List Int → List Int → Option β) (K2 : List Int → Int → List Int → List Int → Option β) : Nat → Int → List Int → Int → List Int → List Int → Option β
  | 0, _, _, _, _, _ => none
  | k + 1, v3, v5, v6, v7, v8 => cond (decide (v3 < ((v4.length : Nat) : Int))) (cond (decide (v3 < 30)) (cond (decide ((0 : Int) ≤ v3 ∧ v3 < ((v4.length : Nat) : Int))) (cond (decide (0 + v3.toNat < v4.length)) (cond (decide ((((v4.getD (0 + v3.toNat) (Sl.nil (.int .u8))).dat.length : Nat) : Int) > 1000)) (f70_1 F  (fun x9 => K0 x9 v5 v6 v7 v8) ) (cond (decide ((0 : Int) ≤ v3 ∧ v3 < ((v4.length : Nat) : Int))) (cond (decide (0 + v3.toNat < v4.length)) (f74_1 F v5 v6 v7 ((v4.getD (0 + v3.toNat) (Sl.nil (.int .u8))).dat) (fun x10 x11 x12 => cond (decide ((0 : Int) ≤ v3 ∧ v3 < ((v4.length : Nat) : Int))) (cond (decide (0 + v3.toNat < v4.length)) (cond (decide ((v8.length + (((v4.getD (0 + v3.toNat) (Sl.nil (.int .u8))).dat).length)) * 1 ≤ 70368744177664)) (f75_1 F x10 x11 x12 (fun x13 => f72_1 F (v8 ++ ((v4.getD (0 + v3.toNat) (Sl.nil (.int .u8))).dat)) (fun x14 => cond (!(x13.toList == x14.toList)) (K1 x10 x11 x12 (v8 ++ ((v4.getD (0 + v3.toNat) (Sl.nil (.int .u8))).dat))) (f76_1 F x10 x11 x12 (cond (x11 != (IntKind.u64.wrap (((v8 ++ ((v4.getD (0 + v3.toNat) (Sl.nil (.int .u8))).dat)).length : Nat) : Int))) (K1 x10 x11 x12 (v8 ++ ((v4.getD (0 + v3.toNat) (Sl.nil (.int .u8))).dat))) (f13_1_l4 F v4 K0 K1 K2 k (IntKind.i64.wrap (v3 + 1)) x10 x11 x12 (v8 ++ ((v4.getD (0 + v3.toNat) (Sl.nil (.int .u8))).dat)))) )) ) ) none) none) none) ) none) none)) none) none) (K2 v5 v6 v7 v8)) (K2 v5 v6 v7 v8)
noncomputable def f13_1 [FZ] {β : Type} (F : Nat) (a1 : List (Sl (.int .u8))) (K0 : Bool → Option β) : Option β := f73_1 F  (fun x1 x2 => f13_1_l4 F a1 (fun x15 x16 x17 x18 x19 => K0 x15) (fun x20 x21 x22 x23 => K0 false) (fun x24 x25 x26 x27 => f75_1 F x24 x25 x26 (fun x28 => f71_1 F x27 (fun x29 => cond (x28.toList == x29.toList) (f70_1 F  (fun x30 => K0 x30) ) (K0 false)) ) ) F 0 x1 0 x2 []) 
variable [FZ]
def sh13_1 : Sh := ⟨[.lf (.full 0)], [some ⟨none, [.seq (.sl (.int .u8)) 0]⟩]⟩
noncomputable def S13_1 (F : Nat) (o : Summ) : Summ := mkS sh13_1 (fun d K => f13_1 F d.2.1.2.1 (fun (y0 : Bool) => K [.lf (.bool y0)] [some ⟨d.2.1.1, [.seq (.sl (.int .u8)) 0 d.2.1.2.1]⟩])) o
noncomputable def code13 : Code := bodyOf Try.f13
noncomputable def b13_0 : Code := cB (cB (cR (cL (cR (cR (cR (code13)))))))
theorem scopes13 : scopesOf code13 = [] := by kernel_rfl
theorem ranges13 : rangesOf code13 = [] := by kernel_rfl
theorem loops13 : loopsOf code13 = [b13_0] := by kernel_rfl
theorem enter13 : ∀ args w, (callFunc 13 args).run Try.prog w = .ok (.enter 13 args) w := enter_of (fn := Try.f13) (by kernel_rfl) (by kernel_rfl) (by kernel_rfl)
noncomputable def T13_1 (F : Nat) : FuncId → Option Summ := tab [(70, (S70_1 F noS)), (71, (S71_1 F noS)), (72, (S72_1 F noS)), (73, (S73_1 F noS)), (74, (S74_1 F noS)), (75, (S75_1 F noS)), (76, (S76_1 F noS))]
def sh13_1_l4 : Sh := ⟨[.lf (.full 0), .lf (.ptr 1 0), .lf (.full 3), .lf (.int .i64)], [some ⟨none, [.seq (.sl (.int .u8)) 0]⟩, some ⟨some false, [.seq (.int .u32) 8, .full 2, .int .u64]⟩, some ⟨some false, [.seq (.int .u8) 0]⟩, some ⟨some false, [.seq (.int .u8) 0]⟩]⟩
noncomputable def G13_1_4 (F k : Nat) : LoopS := mkG sh13_1_l4 [0, 3, 4, 5] (outT [(.exit 0, [3, 4]), (.ret, [2])]) (fun d K => f13_1_l4 F d.2.1.2.1 (fun (y0 : Bool) (y2 : List Int) (y3 : Int) (y4 : List Int) (y5 : List Int) => K .ret [.tv (.lf (.bool y0))] [some ⟨d.2.1.1, [.seq (.sl (.int .u8)) 0 d.2.1.2.1]⟩, some ⟨false, [.seq (.int .u32) 8 y2, .full 2, .int .u64 y3]⟩, some ⟨false, [.seq (.int .u8) 0 y4]⟩, some ⟨false, [.seq (.int .u8) 0 y5]⟩]) (fun (y2 : List Int) (y3 : Int) (y4 : List Int) (y5 : List Int) => K .ret [.tv (.lf (.bool false))] [some ⟨d.2.1.1, [.seq (.sl (.int .u8)) 0 d.2.1.2.1]⟩, some ⟨false, [.seq (.int .u32) 8 y2, .full 5, .int .u64 y3]⟩, none, none, none, some ⟨false, [.seq (.int .u8) 0 y4]⟩, some ⟨false, [.seq (.int .u8) 0 y5]⟩]) (fun (y1 : List Int) (y2 : Int) (y3 : List Int) (y4 : List Int) => K (.exit 0) [.tv (.lf (.ptr 1 0)), .tv (.lf (.full 3))] [some ⟨d.2.1.1, [.seq (.sl (.int .u8)) 0 d.2.1.2.1]⟩, some ⟨false, [.seq (.int .u32) 8 y1, .full 2, .int .u64 y2]⟩, some ⟨false, [.seq (.int .u8) 0 y3]⟩, some ⟨false, [.seq (.int .u8) 0 y4]⟩]) k d.1.2.2.2.1 d.2.2.1.2.1 d.2.2.1.2.2.2.1 d.2.2.2.1.2.1 d.2.2.2.2.1.2.1) []
noncomputable def LT13_1 (F : Nat) : Nat → Option LoopS := ltab [(4, G13_1_4 F F)]
theorem L13_1_l4g (F k : Nat) (c70_1 : (Bool → Option Res) → Option Res) (c71_1 : List Int → (ByteArray → Option Res) → Option Res) (c72_1 : List Int → (ByteArray → Option Res) → Option Res) (c73_1 : (List Int → List Int → Option Res) → Option Res) (c74_1 : List Int → Int → List Int → List Int → (List Int → Int → List Int → Option Res) → Option Res) (c75_1 : List Int → Int → List Int → (ByteArray → Option Res) → Option Res) (c76_1 : List Int → Int → List Int → (Option Res) → Option Res)  (l4 : List (Sl (.int .u8)) → (Bool → List Int → Int → List Int → List Int → Option Res) → (List Int → Int → List Int → List Int → Option Res) → (List Int → Int → List Int → List Int → Option Res) → Nat → Int → List Int → Int → List Int → List Int → Option Res) (X4 : LoopS) (d : sh13_1_l4.den) (K : KL) : (fun (v4 : List (Sl (.int .u8))) (K0 : (Bool → List Int → Int → List Int → List Int → Option Res)) (K1 : (List Int → Int → List Int → List Int → Option Res)) (K2 : (List Int → Int → List Int → List Int → Option Res)) (k : Nat) (v3 : Int) (v5 : List Int) (v6 : Int) (v7 : List Int) (v8 : List Int) => cond (decide (v3 < ((v4.length : Nat) : Int))) (cond (decide (v3 < 30)) (cond (decide ((0 : Int) ≤ v3 ∧ v3 < ((v4.length : Nat) : Int))) (cond (decide (0 + v3.toNat < v4.length)) (cond (decide ((((v4.getD (0 + v3.toNat) (Sl.nil (.int .u8))).dat.length : Nat) : Int) > 1000)) (c70_1  (fun x9 => K0 x9 v5 v6 v7 v8) ) (cond (decide ((0 : Int) ≤ v3 ∧ v3 < ((v4.length : Nat) : Int))) (cond (decide (0 + v3.toNat < v4.length)) (c74_1 v5 v6 v7 ((v4.getD (0 + v3.toNat) (Sl.nil (.int .u8))).dat) (fun x10 x11 x12 => cond (decide ((0 : Int) ≤ v3 ∧ v3 < ((v4.length : Nat) : Int))) (cond (decide (0 + v3.toNat < v4.length)) (cond (decide ((v8.length + (((v4.getD (0 + v3.toNat) (Sl.nil (.int .u8))).dat).length)) * 1 ≤ 70368744177664)) (c75_1 x10 x11 x12 (fun x13 => c72_1 (v8 ++ ((v4.getD (0 + v3.toNat) (Sl.nil (.int .u8))).dat)) (fun x14 => cond (!(x13.toList == x14.toList)) (K1 x10 x11 x12 (v8 ++ ((v4.getD (0 + v3.toNat) (Sl.nil (.int .u8))).dat))) (c76_1 x10 x11 x12 (cond (x11 != (IntKind.u64.wrap (((v8 ++ ((v4.getD (0 + v3.toNat) (Sl.nil (.int .u8))).dat)).length : Nat) : Int))) (K1 x10 x11 x12 (v8 ++ ((v4.getD (0 + v3.toNat) (Sl.nil (.int .u8))).dat))) (l4 v4 K0 K1 K2 k (IntKind.i64.wrap (v3 + 1)) x10 x11 x12 (v8 ++ ((v4.getD (0 + v3.toNat) (Sl.nil (.int .u8))).dat)))) )) ) ) none) none) none) ) none) none)) none) none) (K2 v5 v6 v7 v8)) (K2 v5 v6 v7 v8)) d.2.1.2.1 (fun (y0 : Bool) (y2 : List Int) (y3 : Int) (y4 : List Int) (y5 : List Int) => K .ret [.tv (.lf (.bool y0))] [some ⟨d.2.1.1, [.seq (.sl (.int .u8)) 0 d.2.1.2.1]⟩, some ⟨false, [.seq (.int .u32) 8 y2, .full 2, .int .u64 y3]⟩, some ⟨false, [.seq (.int .u8) 0 y4]⟩, some ⟨false, [.seq (.int .u8) 0 y5]⟩]) (fun (y2 : List Int) (y3 : Int) (y4 : List Int) (y5 : List Int) => K .ret [.tv (.lf (.bool false))] [some ⟨d.2.1.1, [.seq (.sl (.int .u8)) 0 d.2.1.2.1]⟩, some ⟨false, [.seq (.int .u32) 8 y2, .full 5, .int .u64 y3]⟩, none, none, none, some ⟨false, [.seq (.int .u8) 0 y4]⟩, some ⟨false, [.seq (.int .u8) 0 y5]⟩]) (fun (y1 : List Int) (y2 : Int) (y3 : List Int) (y4 : List Int) => K (.exit 0) [.tv (.lf (.ptr 1 0)), .tv (.lf (.full 3))] [some ⟨d.2.1.1, [.seq (.sl (.int .u8)) 0 d.2.1.2.1]⟩, some ⟨false, [.seq (.int .u32) 8 y1, .full 2, .int .u64 y2]⟩, some ⟨false, [.seq (.int .u8) 0 y3]⟩, some ⟨false, [.seq (.int .u8) 0 y4]⟩]) k d.1.2.2.2.1 d.2.2.1.2.1 d.2.2.1.2.2.2.1 d.2.2.2.1.2.1 d.2.2.2.2.1.2.1 = roundOf Try.prog (tab [(70, (mkS sh70_1 (fun d K => c70_1 (fun (y0 : Bool) => K [.lf (.bool y0)] [])) noS)), (71, (mkS sh71_1 (fun d K => c71_1 d.2.1.2.1 (fun (y0 : ByteArray) => K [.lf (.str y0)] [some ⟨d.2.1.1, [.seq (.int .u8) 0 d.2.1.2.1]⟩])) noS)), (72, (mkS sh72_1 (fun d K => c72_1 d.2.1.2.1 (fun (y0 : ByteArray) => K [.lf (.str y0)] [some ⟨d.2.1.1, [.seq (.int .u8) 0 d.2.1.2.1]⟩])) noS)), (73, (mkS sh73_1 (fun d K => c73_1 (fun (y0 : List Int) (y2 : List Int) => K [.lf (.ptr 0 0)] [some ⟨false, [.seq (.int .u32) 8 y0, .full 1, .int .u64 0]⟩, some ⟨false, [.seq (.int .u8) 0 y2]⟩])) noS)), (74, (mkS sh74_1 (fun d K => c74_1 d.2.1.2.1 d.2.1.2.2.2.1 d.2.2.1.2.1 d.2.2.2.1.2.1 (fun (y0 : List Int) (y1 : Int) (y3 : List Int) => K [] [some ⟨false, [.seq (.int .u32) 8 y0, .full 3, .int .u64 y1]⟩, none, some ⟨d.2.2.2.1.1, [.seq (.int .u8) 0 d.2.2.2.1.2.1]⟩, some ⟨false, [.seq (.int .u8) 0 y3]⟩])) noS)), (75, (mkS sh75_1 (fun d K => c75_1 d.2.1.2.1 d.2.1.2.2.2.1 d.2.2.1.2.1 (fun (y0 : ByteArray) => K [.lf (.str y0)] [some ⟨d.2.1.1, [.seq (.int .u32) 8 d.2.1.2.1, .full 1, .int .u64 d.2.1.2.2.2.1]⟩, some ⟨d.2.2.1.1, [.seq (.int .u8) 0 d.2.2.1.2.1]⟩])) noS)), (76, (mkS sh76_1 (fun d K => c76_1 d.2.1.2.1 d.2.1.2.2.2.1 d.2.2.1.2.1 (K [.lf (.int .u64 d.2.1.2.2.2.1)] [some ⟨d.2.1.1, [.seq (.int .u32) 8 d.2.1.2.1, .full 1, .int .u64 d.2.1.2.2.2.1]⟩, some ⟨d.2.2.1.1, [.seq (.int .u8) 0 d.2.2.1.2.1]⟩])) noS))]) (xw []) 57 1 (ltab [(4, X4)]) (mkG sh13_1_l4 [0, 3, 4, 5] (outT [(.exit 0, [3, 4]), (.ret, [2])]) (fun d K => l4 d.2.1.2.1 (fun (y0 : Bool) (y2 : List Int) (y3 : Int) (y4 : List Int) (y5 : List Int) => K .ret [.tv (.lf (.bool y0))] [some ⟨d.2.1.1, [.seq (.sl (.int .u8)) 0 d.2.1.2.1]⟩, some ⟨false, [.seq (.int .u32) 8 y2, .full 2, .int .u64 y3]⟩, some ⟨false, [.seq (.int .u8) 0 y4]⟩, some ⟨false, [.seq (.int .u8) 0 y5]⟩]) (fun (y2 : List Int) (y3 : Int) (y4 : List Int) (y5 : List Int) => K .ret [.tv (.lf (.bool false))] [some ⟨d.2.1.1, [.seq (.sl (.int .u8)) 0 d.2.1.2.1]⟩, some ⟨false, [.seq (.int .u32) 8 y2, .full 5, .int .u64 y3]⟩, none, none, none, some ⟨false, [.seq (.int .u8) 0 y4]⟩, some ⟨false, [.seq (.int .u8) 0 y5]⟩]) (fun (y1 : List Int) (y2 : Int) (y3 : List Int) (y4 : List Int) => K (.exit 0) [.tv (.lf (.ptr 1 0)), .tv (.lf (.full 3))] [some ⟨d.2.1.1, [.seq (.sl (.int .u8)) 0 d.2.1.2.1]⟩, some ⟨false, [.seq (.int .u32) 8 y1, .full 2, .int .u64 y2]⟩, some ⟨false, [.seq (.int .u8) 0 y3]⟩, some ⟨false, [.seq (.int .u8) 0 y4]⟩]) k d.1.2.2.2.1 d.2.2.1.2.1 d.2.2.1.2.2.2.1 d.2.2.2.1.2.1 d.2.2.2.2.1.2.1) []) b13_0 (encT sh13_1_l4.vs d.1) (encH sh13_1_l4.h d.2) K := by kernel_rfl
theorem L13_1_4 (F : Nat) : LoopOK Try.prog (T13_1 F) (xw []) 57 1 (LT13_1 F) (G13_1_4 F F) b13_0 :=
  loopOK_of (s := sh13_1_l4) (live := [0, 3, 4, 5]) (out := (outT [(.exit 0, [3, 4]), (.ret, [2])])) (mv := []) (fun k d K => f13_1_l4 F d.2.1.2.1 (fun (y0 : Bool) (y2 : List Int) (y3 : Int) (y4 : List Int) (y5 : List Int) => K .ret [.tv (.lf (.bool y0))] [some ⟨d.2.1.1, [.seq (.sl (.int .u8)) 0 d.2.1.2.1]⟩, some ⟨false, [.seq (.int .u32) 8 y2, .full 2, .int .u64 y3]⟩, some ⟨false, [.seq (.int .u8) 0 y4]⟩, some ⟨false, [.seq (.int .u8) 0 y5]⟩]) (fun (y2 : List Int) (y3 : Int) (y4 : List Int) (y5 : List Int) => K .ret [.tv (.lf (.bool false))] [some ⟨d.2.1.1, [.seq (.sl (.int .u8)) 0 d.2.1.2.1]⟩, some ⟨false, [.seq (.int .u32) 8 y2, .full 5, .int .u64 y3]⟩, none, none, none, some ⟨false, [.seq (.int .u8) 0 y4]⟩, some ⟨false, [.seq (.int .u8) 0 y5]⟩]) (fun (y1 : List Int) (y2 : Int) (y3 : List Int) (y4 : List Int) => K (.exit 0) [.tv (.lf (.ptr 1 0)), .tv (.lf (.full 3))] [some ⟨d.2.1.1, [.seq (.sl (.int .u8)) 0 d.2.1.2.1]⟩, some ⟨false, [.seq (.int .u32) 8 y1, .full 2, .int .u64 y2]⟩, some ⟨false, [.seq (.int .u8) 0 y3]⟩, some ⟨false, [.seq (.int .u8) 0 y4]⟩]) k d.1.2.2.2.1 d.2.2.1.2.1 d.2.2.1.2.2.2.1 d.2.2.2.1.2.1 d.2.2.2.2.1.2.1) F (fun d K => by kernel_rfl)  (fun k d K => Eq.mp (by kernel_rfl) (L13_1_l4g F k (f70_1 F) (f71_1 F) (f72_1 F) (f73_1 F) (f74_1 F) (f75_1 F) (f76_1 F)  (f13_1_l4 F) (G13_1_4 F F) d K))
theorem E13_1g (F : Nat) (c70_1 : (Bool → Option Res) → Option Res) (c71_1 : List Int → (ByteArray → Option Res) → Option Res) (c72_1 : List Int → (ByteArray → Option Res) → Option Res) (c73_1 : (List Int → List Int → Option Res) → Option Res) (c74_1 : List Int → Int → List Int → List Int → (List Int → Int → List Int → Option Res) → Option Res) (c75_1 : List Int → Int → List Int → (ByteArray → Option Res) → Option Res) (c76_1 : List Int → Int → List Int → (Option Res) → Option Res) (l4 : List (Sl (.int .u8)) → (Bool → List Int → Int → List Int → List Int → Option Res) → (List Int → Int → List Int → List Int → Option Res) → (List Int → Int → List Int → List Int → Option Res) → Nat → Int → List Int → Int → List Int → List Int → Option Res)  (d : sh13_1.den) (K : KF) : evBody Try.prog (tab [(70, (mkS sh70_1 (fun d K => c70_1 (fun (y0 : Bool) => K [.lf (.bool y0)] [])) noS)), (71, (mkS sh71_1 (fun d K => c71_1 d.2.1.2.1 (fun (y0 : ByteArray) => K [.lf (.str y0)] [some ⟨d.2.1.1, [.seq (.int .u8) 0 d.2.1.2.1]⟩])) noS)), (72, (mkS sh72_1 (fun d K => c72_1 d.2.1.2.1 (fun (y0 : ByteArray) => K [.lf (.str y0)] [some ⟨d.2.1.1, [.seq (.int .u8) 0 d.2.1.2.1]⟩])) noS)), (73, (mkS sh73_1 (fun d K => c73_1 (fun (y0 : List Int) (y2 : List Int) => K [.lf (.ptr 0 0)] [some ⟨false, [.seq (.int .u32) 8 y0, .full 1, .int .u64 0]⟩, some ⟨false, [.seq (.int .u8) 0 y2]⟩])) noS)), (74, (mkS sh74_1 (fun d K => c74_1 d.2.1.2.1 d.2.1.2.2.2.1 d.2.2.1.2.1 d.2.2.2.1.2.1 (fun (y0 : List Int) (y1 : Int) (y3 : List Int) => K [] [some ⟨false, [.seq (.int .u32) 8 y0, .full 3, .int .u64 y1]⟩, none, some ⟨d.2.2.2.1.1, [.seq (.int .u8) 0 d.2.2.2.1.2.1]⟩, some ⟨false, [.seq (.int .u8) 0 y3]⟩])) noS)), (75, (mkS sh75_1 (fun d K => c75_1 d.2.1.2.1 d.2.1.2.2.2.1 d.2.2.1.2.1 (fun (y0 : ByteArray) => K [.lf (.str y0)] [some ⟨d.2.1.1, [.seq (.int .u32) 8 d.2.1.2.1, .full 1, .int .u64 d.2.1.2.2.2.1]⟩, some ⟨d.2.2.1.1, [.seq (.int .u8) 0 d.2.2.1.2.1]⟩])) noS)), (76, (mkS sh76_1 (fun d K => c76_1 d.2.1.2.1 d.2.1.2.2.2.1 d.2.2.1.2.1 (K [.lf (.int .u64 d.2.1.2.2.2.1)] [some ⟨d.2.1.1, [.seq (.int .u32) 8 d.2.1.2.1, .full 1, .int .u64 d.2.1.2.2.2.1]⟩, some ⟨d.2.2.1.1, [.seq (.int .u8) 0 d.2.2.1.2.1]⟩])) noS))]) (xw []) 57 1 (ltab [(4, mkG sh13_1_l4 [0, 3, 4, 5] (outT [(.exit 0, [3, 4]), (.ret, [2])]) (fun d K => l4 d.2.1.2.1 (fun (y0 : Bool) (y2 : List Int) (y3 : Int) (y4 : List Int) (y5 : List Int) => K .ret [.tv (.lf (.bool y0))] [some ⟨d.2.1.1, [.seq (.sl (.int .u8)) 0 d.2.1.2.1]⟩, some ⟨false, [.seq (.int .u32) 8 y2, .full 2, .int .u64 y3]⟩, some ⟨false, [.seq (.int .u8) 0 y4]⟩, some ⟨false, [.seq (.int .u8) 0 y5]⟩]) (fun (y2 : List Int) (y3 : Int) (y4 : List Int) (y5 : List Int) => K .ret [.tv (.lf (.bool false))] [some ⟨d.2.1.1, [.seq (.sl (.int .u8)) 0 d.2.1.2.1]⟩, some ⟨false, [.seq (.int .u32) 8 y2, .full 5, .int .u64 y3]⟩, none, none, none, some ⟨false, [.seq (.int .u8) 0 y4]⟩, some ⟨false, [.seq (.int .u8) 0 y5]⟩]) (fun (y1 : List Int) (y2 : Int) (y3 : List Int) (y4 : List Int) => K (.exit 0) [.tv (.lf (.ptr 1 0)), .tv (.lf (.full 3))] [some ⟨d.2.1.1, [.seq (.sl (.int .u8)) 0 d.2.1.2.1]⟩, some ⟨false, [.seq (.int .u32) 8 y1, .full 2, .int .u64 y2]⟩, some ⟨false, [.seq (.int .u8) 0 y3]⟩, some ⟨false, [.seq (.int .u8) 0 y4]⟩]) F d.1.2.2.2.1 d.2.2.1.2.1 d.2.2.1.2.2.2.1 d.2.2.2.1.2.1 d.2.2.2.2.1.2.1) [])]) code13 Try.f13.results.toList (encT sh13_1.vs d.1) (encH sh13_1.h d.2) K = (fun (a1 : List (Sl (.int .u8))) (K0 : (Bool → Option Res)) => c73_1  (fun x1 x2 => l4 a1 (fun x15 x16 x17 x18 x19 => K0 x15) (fun x20 x21 x22 x23 => K0 false) (fun x24 x25 x26 x27 => c75_1 x24 x25 x26 (fun x28 => c71_1 x27 (fun x29 => cond (x28.toList == x29.toList) (c70_1  (fun x30 => K0 x30) ) (K0 false)) ) ) F 0 x1 0 x2 []) ) d.2.1.2.1 (fun (y0 : Bool) => K [.lf (.bool y0)] [some ⟨d.2.1.1, [.seq (.sl (.int .u8)) 0 d.2.1.2.1]⟩]) := by kernel_rfl
theorem E13_1 (F : Nat) (d : sh13_1.den) (K : KF) : evBody Try.prog (T13_1 F) (xw []) 57 1 (LT13_1 F) code13 Try.f13.results.toList (encT sh13_1.vs d.1) (encH sh13_1.h d.2) K = f13_1 F d.2.1.2.1 (fun (y0 : Bool) => K [.lf (.bool y0)] [some ⟨d.2.1.1, [.seq (.sl (.int .u8)) 0 d.2.1.2.1]⟩]) := Eq.mp (by kernel_rfl) (E13_1g F (f70_1 F) (f71_1 F) (f72_1 F) (f73_1 F) (f74_1 F) (f75_1 F) (f76_1 F) (f13_1_l4 F)  d K)
theorem S13_1_ok (F : Nat) (o : Summ) (ho : SoundFn Try.prog 13 o) : SoundFn Try.prog 13 (S13_1 F o) :=
  soundFn_of (fn := Try.f13) (c := code13) rfl rfl (by kernel_rfl) (tab_cons (S70_1_ok F _ (noS_sound enter70)) (tab_cons (S71_1_ok F _ (noS_sound enter71)) (tab_cons (S72_1_ok F _ (noS_sound enter72)) (tab_cons (S73_1_ok F _ (noS_sound enter73)) (tab_cons (S74_1_ok F _ (noS_sound enter74)) (tab_cons (S75_1_ok F _ (noS_sound enter75)) (tab_cons (S76_1_ok F _ (noS_sound enter76)) tab_nil))))))) (by kernel_rfl) (by kernel_rfl) ho (by rw [loops13]; exact (loopsOK_cons (by kernel_rfl) (L13_1_4 F) loopsOK_nil)) (by rw [scopes13]; exact scopesOK_nil) (by rw [ranges13]; exact rangesOK_nil) (E13_1 F)
end Go.Proofs.Ytlokielmpdjedaa.X
end

section
/- A row's arguments, opened as typed values: slices, which are lent for reading. -/
namespace Go.Proofs.Ytlokielmpdjedaa.Ev
open Go Go.RowKit
set_option linter.unusedVariables false
set_option linter.unusedSimpArgs false
set_option linter.unusedSectionVars false
variable [FZ]

section
variable {P : Program} {H : Type} {enc : TypeId × Value → H} {w : World} {held : Bool}

theorem open_slice (hfz : ∀ a cap cs, FzW (Ctx.of w fun _ => False) a cap cs → FZ.ok a cap cs) {e t : TypeId} {sl : List SL} {k : EK} (conv : denL sl → k.den) (ht : P.underlying t = some (.slice e)) (hs : slOf P 8 e = some sl) (hc : P.cellsOf e = k.w) (hconv : ∀ y, k.of1 (encL sl y) = some (conv y))
    (hwf : ∀ y, wfL sl y → wfE k (conv y)) {r : Reach} {b0 : Nat} {v : Value} {d : DataW H} {ps : List MemPlace} (hv : Value.okWide P w r b0 t v) (h : DataW.Trod enc P w 0 (fun _ => true) held t v d ps) :
    ∃ (l : List k.den) (g : Gh), Shown w k l g v := by
  obtain ⟨a0, n0, c0, rfl⟩ := Go.WideShapes.okWide_slice ht hv
  obtain ⟨fuel, hf⟩ := h
  exact slice_core ht hc (fun n cs x hx => by
    obtain ⟨d', o1, o2⟩ := slOf_open (m := []) hfz 8 e sl n cs x hs hx
    exact ⟨conv d', of1_cells k (hconv d') o1, hwf d' o2⟩) hf

/-- Arguments that are lent. -/
theorem inv_shown {m : GM} {h : Heap} (hfz : ∀ a cap cs, FZ.ok a cap cs → FzW (Ctx.of w fun _ => False) a cap cs) (hl : m.length = h.length) (hq : ∀ (i : Nat) ob g, hget h i = some ob → m[i]? = some g → ob.ro = true ∧ ObRel m g w ob ∧ ∀ b, g.addr = some b → b.1 < w.heap.size) :
    Inv (Ctx.of w fun _ => False) m h w :=
  ⟨hl, fun id ob g h1 h2 => (hq id ob g h1 h2).2.1, fun id ob g b h1 h2 h3 => by rw [(hq id ob g h1 h2).1]; exact ⟨fun h => h, (hq id ob g h1 h2).2.2 b h3, trivial⟩,
   fun i j oi oj gi gj b c _ h1 h2 h3 _ h5 h6 => (by rw [(hq i oi gi h1 h5).1] at h3; cases h3), Str.refl w, Nat.le_refl _, fun _ _ _ => rfl, hfz, fun x hx => by cases hx⟩

theorem inv_cons {m : GM} {h : Heap} {k : EK} {l : List k.den} {g : Gh} {v : Value} (hi : Inv (Ctx.of w fun _ => False) m h w) (hro : ∀ (i : Nat) ob, hget h i = some ob → ob.ro = true) (hs : Shown w k l g v) :
    Inv (Ctx.of w fun _ => False) (m ++ [g]) (h ++ [some ⟨true, [.seq k 0 l]⟩]) w ∧ (∀ (i : Nat) ob, hget (h ++ [some ⟨true, [.seq k 0 l]⟩]) i = some ob → ob.ro = true) ∧ LRel (m ++ [g]) (.full h.length) v := by
  have hro' : ∀ (i : Nat) ob, hget (h ++ [some ⟨true, [.seq k 0 l]⟩]) i = some ob → ob.ro = true := by
    intro i ob h1
    rcases hget_app h1 with ⟨_, h2⟩ | ⟨_, h2⟩
    · exact hro i ob h2
    · cases h2; rfl
  refine ⟨inv_shown hi.fz (by simp [hi.len]) fun i ob g' h1 h2 => ⟨hro' i ob h1, ?_⟩, hro', ?_⟩
  · rcases hget_app h1 with ⟨hlt, h3⟩ | ⟨rfl, h3⟩
    · have h4 := gm_app_old (by rw [hi.len]; exact hlt) h2
      obtain ⟨o1, cs, o2, o3⟩ := hi.obs i ob g' h3 h4
      exact ⟨⟨o1, cs, o2.mono (pre_append _ _), o3⟩, fun b hb => hi.block_lt h3 h4 hb⟩
    · cases h3
      have : (m ++ [g])[h.length]? = some g := by rw [← hi.len]; exact gm_app_new
      rw [this] at h2; cases h2
      exact ⟨hs.obj _, hs.blk⟩
  · exact hs.rel _ _ (by rw [← hi.len]; exact gm_app_new)

end
end Go.Proofs.Ytlokielmpdjedaa.Ev
end

section
/- SHA-256: blocks; bytes that come in parts; the digest. -/
namespace Go.Proofs.Ytlokielmpdjedaa.X
open Go Go.Proofs.Ytlokielmpdjedaa.Ev
set_option linter.unusedSectionVars false
variable [FZ]
set_option linter.unusedVariables false
set_option linter.unusedSimpArgs false

def sS1 (e : Int) : Int := ixor .u32 (ixor .u32 (rot e 6) (rot e 11)) (rot e 25)
def sS0 (a : Int) : Int := ixor .u32 (ixor .u32 (rot a 2) (rot a 13)) (rot a 22)
def t1 (e f g h k w : Int) : Int := IntKind.u32.wrap (IntKind.u32.wrap (IntKind.u32.wrap (IntKind.u32.wrap (h + sS1 e) + ixor .u32 (iand .u32 e f) (iand .u32 (ixor .u32 4294967295 e) g)) + k) + w)
def t2 (a b c : Int) : Int := IntKind.u32.wrap (sS0 a + ixor .u32 (ixor .u32 (iand .u32 a b) (iand .u32 a c)) (iand .u32 b c))

def stp (v : List Int) (k w : Int) : List Int := match v with
  | [a, b, c, d, e, f, g, h] => [IntKind.u32.wrap (t1 e f g h k w + t2 a b c), a, b, c, IntKind.u32.wrap (d + t1 e f g h k w), e, f, g]
  | v => v

def rds (kk ww : List Int) : Nat → Nat → List Int → List Int
  | 0, _, v => v
  | m + 1, i, v => rds kk ww m (i + 1) (stp v (kk.getD i 0) (ww.getD i 0))

def fin8 (s v : List Int) : List Int := match s, v with
  | [a, b, c, d, e, f, g, h], [a', b', c', d', e', f', g', h'] => [IntKind.u32.wrap (a' + a), IntKind.u32.wrap (b' + b), IntKind.u32.wrap (c' + c), IntKind.u32.wrap (d' + d), IntKind.u32.wrap (e' + e), IntKind.u32.wrap (f' + f), IntKind.u32.wrap (g' + g), IntKind.u32.wrap (h' + h)]
  | _, _ => []

def eight (s : List Int) : Prop := ∃ a b c d e f g h, s = [a, b, c, d, e, f, g, h]
theorem eight_of {s : List Int} (h : s.length = 8) : eight s := by
  match s, h with
  | [a, b, c, d, e, f, g, h], _ => exact ⟨a, b, c, d, e, f, g, h, rfl⟩

theorem stp_eight {v : List Int} (h : eight v) (k w : Int) : eight (stp v k w) := by
  obtain ⟨a, b, c, d, e, f, g, h, rfl⟩ := h
  exact ⟨_, _, _, _, _, _, _, _, rfl⟩
theorem rds_eight {kk ww : List Int} : ∀ (m i : Nat) {v : List Int}, eight v → eight (rds kk ww m i v)
  | 0, _, v, h => h
  | m + 1, i, v, h => rds_eight m (i + 1) (stp_eight h _ _)

/-- The numbers behind a block. -/
def blk (s b : List Int) : List Int := fin8 s (rds k64 (wds b) 64 0 s)
theorem blk_eight {s : List Int} (b : List Int) (h : eight s) : eight (blk s b) := by
  have h2 := rds_eight (kk := k64) (ww := wds b) 64 0 h
  obtain ⟨a, b', c, d, e, f, g, h, rfl⟩ := h
  obtain ⟨a', b'', c', d', e', f', g', h', h3⟩ := h2
  unfold blk
  rw [h3]
  exact ⟨_, _, _, _, _, _, _, _, rfl⟩

theorem k64_len : k64.length = 64 := rfl

theorem rdP {β : Type} {F : Nat} {b s z ww : List Int} {K : List Int → Option β} (hw : ww.length = 64) : ∀ (m i k : Nat) (v : List Int), eight v → i + m = 64 → m < k →
    f94_0_l3 F b s z k64 ww K k (i : Int) v = K (rds k64 ww m i v)
  | 0, i, k, v, he, hi, hk => by
    obtain ⟨k, rfl⟩ : ∃ j, k = j + 1 := ⟨k - 1, by omega⟩
    simp only [f94_0_l3]
    rw [cf (by omega)]; rfl
  | m + 1, i, k, v, he, hi, hk => by
    obtain ⟨k, rfl⟩ : ∃ j, k = j + 1 := ⟨k - 1, by omega⟩
    have e4 : IntKind.i64.wrap ((i : Int) + 1) = ((i + 1 : Nat) : Int) := by rw [w64 (by omega) (by omega)]; omega
    have ih := rdP (F := F) (b := b) (s := s) (z := z) (K := K) hw m (i + 1) k _ (stp_eight he (k64.getD i 0) (ww.getD i 0)) (by omega) (by omega)
    obtain ⟨va, vb, vc, vd, ve, vf, vg, vh, rfl⟩ := he
    simp only [f94_0_l3, e4, hw, Int.toNat_natCast]
    have q0 : i < k64.length := by rw [k64_len]; omega
    rw [ct (by omega), ct (by simp), ct (by simp), ct (by simp), ct (by simp), ct (by simp), ct (by simp), ct (by simp), ct (by simp), ct (by simp), ct (by omega), ct q0, ct (by omega), ct (by omega),
      turnP (by omega) (by omega), turnP (by omega) (by omega), turnP (by omega) (by omega), turnP (by omega) (by omega), turnP (by omega) (by omega), turnP (by omega) (by omega)]
    rw [ct (by simp), ct (by simp), ct (by simp)]
    exact ih

def adds (s : List Int) : Nat → Nat → List Int → List Int
  | 0, _, v => v
  | m + 1, i, v => adds s m (i + 1) (v.set i (IntKind.u32.wrap (v.getD i 0 + s.getD i 0)))

theorem addP {β : Type} {F : Nat} {b z s : List Int} {K : List Int → Option β} (hs : s.length = 8) : ∀ (m i k : Nat) (v : List Int), v.length = 8 → i + m = 8 → m < k →
    f94_0_l14 F b s z K k (i : Int) v = K (adds s m i v)
  | 0, i, k, v, he, hi, hk => by
    obtain ⟨k, rfl⟩ : ∃ j, k = j + 1 := ⟨k - 1, by omega⟩
    simp only [f94_0_l14]
    rw [cf (by omega)]; rfl
  | m + 1, i, k, v, he, hi, hk => by
    obtain ⟨k, rfl⟩ : ∃ j, k = j + 1 := ⟨k - 1, by omega⟩
    have e4 : IntKind.i64.wrap ((i : Int) + 1) = ((i + 1 : Nat) : Int) := by rw [w64 (by omega) (by omega)]; omega
    simp only [f94_0_l14, e4, hs, he, Int.toNat_natCast]
    rw [ct (by omega), ct (by omega), ct (by omega), ct (by omega), ct (by omega), ct (by omega), ct (by omega)]
    exact addP hs m (i + 1) k _ (by simp [he]) (by omega) (by omega)

theorem fnP {β : Type} {F : Nat} {b z s v : List Int} {K : List Int → Option β} (hF : 9 ≤ F) (hs : eight s) (hv : eight v) : f94_0_l14 F b s z K F 0 v = K (fin8 s v) := by
  obtain ⟨a, b', c, d, e, f, g, h, rfl⟩ := hs
  obtain ⟨va, vb, vc, vd, ve, vf, vg, vh, rfl⟩ := hv
  exact addP rfl 8 0 F _ rfl (by omega) (by omega)

theorem blkP {β : Type} {F : Nat} {s b : List Int} {K : List Int → Option β} (hF : 100 ≤ F) (hs : eight s) (hb : 64 ≤ b.length) : f94_1 F s b K = K (blk s b) := by
  simp only [f94_1]
  rw [ct ⟨hF, hb⟩]
  simp only [f94_0]
  have h1 := rdP (F := F) (b := b) (s := s) (z := [0, 0, 0, 0, 0, 0, 0, 0]) (K := fun x14 => f94_0_l14 F b s [0, 0, 0, 0, 0, 0, 0, 0] (fun x20 => K x20) F 0 x14) (wds_len b) 64 0 F s hs (by omega) (by omega)
  rw [show ((0 : Nat) : Int) = 0 from rfl] at h1
  rw [h1, fnP (by omega) hs (rds_eight 64 0 hs)]
  rfl

theorem rdR {β : Type} {F : Nat} {b s z ww : List Int} {K : Int → Int → Int → Int → Int → Int → Int → Int → Option β} {K' : List Int → Option β} (hK : ∀ a b c d e f g h, K a b c d e f g h = K' [a, b, c, d, e, f, g, h]) (hw : ww.length = 64) : ∀ (m i k : Nat) (va vb vc vd ve vf vg vh : Int), i + m = 64 → m < k →
    f92_1_l21 F k64 b s z ww K k va vb vc vd ve vf vg vh (i : Int) = K' (rds k64 ww m i [va, vb, vc, vd, ve, vf, vg, vh])
  | 0, i, k, va, vb, vc, vd, ve, vf, vg, vh, hi, hk => by
    obtain ⟨k, rfl⟩ : ∃ j, k = j + 1 := ⟨k - 1, by omega⟩
    simp only [f92_1_l21]
    rw [cf (by omega), hK]; rfl
  | m + 1, i, k, va, vb, vc, vd, ve, vf, vg, vh, hi, hk => by
    obtain ⟨k, rfl⟩ : ∃ j, k = j + 1 := ⟨k - 1, by omega⟩
    have e4 : IntKind.i64.wrap ((i : Int) + 1) = ((i + 1 : Nat) : Int) := by rw [w64 (by omega) (by omega)]; omega
    have q0 : i < k64.length := by rw [k64_len]; omega
    simp only [f92_1_l21, e4, hw, Int.toNat_natCast, Nat.zero_add]
    rw [ct (by omega), ct (by omega), ct q0, ct (by omega), ct (by omega),
      turnR (by omega) (by omega), turnR (by omega) (by omega), turnR (by omega) (by omega), turnR (by omega) (by omega), turnR (by omega) (by omega), turnR (by omega) (by omega)]
    exact rdR hK hw m (i + 1) k _ _ _ _ _ _ _ _ (by omega) (by omega)

theorem blkR {β : Type} {F : Nat} {s b : List Int} {K : List Int → Option β} (hF : 100 ≤ F) (hs : eight s) (hb : 64 ≤ b.length) : f92_1 F s k64 b K = K (blk s b) := by
  simp only [f92_1]
  rw [show ([0, 0, 0, 0, 0, 0, 0, 0, 0, 0, 0, 0, 0, 0, 0, 0, 0, 0, 0, 0, 0, 0, 0, 0, 0, 0, 0, 0, 0, 0, 0, 0, 0, 0, 0, 0, 0, 0, 0, 0, 0, 0, 0, 0, 0, 0, 0, 0, 0, 0, 0, 0, 0, 0, 0, 0, 0, 0, 0, 0, 0, 0, 0, 0] : List Int) = List.replicate 64 0 from rfl]
  have h0 := ldR (F := F) (b := b) (z := [0, 0, 0, 0, 0, 0, 0, 0]) (s := s) (y := k64) (K := fun x7 => f92_1_l7 F k64 b s [0, 0, 0, 0, 0, 0, 0, 0] (fun x18 => cond (decide (0 < s.length)) (cond (decide (1 < s.length)) (cond (decide (2 < s.length)) (cond (decide (3 < s.length)) (cond (decide (4 < s.length)) (cond (decide (5 < s.length)) (cond (decide (6 < s.length)) (cond (decide (7 < s.length)) (f92_1_l21 F k64 b s [0, 0, 0, 0, 0, 0, 0, 0] x18 (fun x39 x40 x41 x42 x43 x44 x45 x46 => cond (decide (0 < s.length)) (cond (decide (1 < s.length)) (cond (decide (2 < s.length)) (cond (decide (3 < s.length)) (cond (decide (4 < s.length)) (cond (decide (5 < s.length)) (cond (decide (6 < s.length)) (cond (decide (7 < s.length)) (K [IntKind.u32.wrap ((s.getD 0 0) + x39), IntKind.u32.wrap ((s.getD 1 0) + x40), IntKind.u32.wrap ((s.getD 2 0) + x41), IntKind.u32.wrap ((s.getD 3 0) + x42), IntKind.u32.wrap ((s.getD 4 0) + x43), IntKind.u32.wrap ((s.getD 5 0) + x44), IntKind.u32.wrap ((s.getD 6 0) + x45), IntKind.u32.wrap ((s.getD 7 0) + x46)]) none) none) none) none) none) none) none) none) F (s.getD 0 0) (s.getD 1 0) (s.getD 2 0) (s.getD 3 0) (s.getD 4 0) (s.getD 5 0) (s.getD 6 0) (s.getD 7 0) 0) none) none) none) none) none) none) none) none) F 16 x7) hb 16 0 F (List.replicate 64 0) (by omega) (by omega) (by simp)
  rw [show ((0 : Nat) : Int) = 0 from rfl] at h0
  rw [h0]
  rw [show (16 : Int) = ((16 : Nat) : Int) from rfl, exR 48 16 F _ (by omega) (by omega) (by omega) (by rw [ldr_len]; simp)]
  obtain ⟨a, b', c, d, e, f, g, h, rfl⟩ := hs
  have hw := wds_len b
  unfold blk
  unfold wds at hw ⊢
  rw [ct (by simp), ct (by simp), ct (by simp), ct (by simp), ct (by simp), ct (by simp), ct (by simp), ct (by simp)]
  have h1 := rdR (F := F) (b := b) (s := [a, b', c, d, e, f, g, h]) (z := [0, 0, 0, 0, 0, 0, 0, 0]) (K' := fun v => K (fin8 [a, b', c, d, e, f, g, h] v)) (K := fun x39 x40 x41 x42 x43 x44 x45 x46 =>
    K [IntKind.u32.wrap (a + x39), IntKind.u32.wrap (b' + x40), IntKind.u32.wrap (c + x41), IntKind.u32.wrap (d + x42), IntKind.u32.wrap (e + x43), IntKind.u32.wrap (f + x44), IntKind.u32.wrap (g + x45), IntKind.u32.wrap (h + x46)])
    (fun x1 x2 x3 x4 x5 x6 x7 x8 => by simp only [fin8]; rw [Int.add_comm a, Int.add_comm b', Int.add_comm c, Int.add_comm d, Int.add_comm e, Int.add_comm f, Int.add_comm g, Int.add_comm h]) hw 64 0 F a b' c d e f g h (by omega) (by omega)
  rw [show ((0 : Nat) : Int) = 0 from rfl] at h1
  exact h1

end Go.Proofs.Ytlokielmpdjedaa.X
end

section
/- SHA-256: bytes that come in parts, and the digest: the code's and the document's are one. -/
namespace Go.Proofs.Ytlokielmpdjedaa.X
open Go Go.Proofs.Ytlokielmpdjedaa.Ev
set_option linter.unusedSectionVars false
variable [FZ]
set_option linter.unusedVariables false
set_option linter.unusedSimpArgs false

def cmpN : Nat → List Int → List Int → List Int × List Int
  | 0, s, l => (s, l)
  | q + 1, s, l => cmpN q (blk s (l.take 64)) (l.drop 64)

theorem cmpN_add : ∀ (q r : Nat) (s l : List Int), cmpN (q + r) s l = cmpN r (cmpN q s l).1 (cmpN q s l).2
  | 0, r, s, l => by simp [cmpN]
  | q + 1, r, s, l => by
    rw [show q + 1 + r = (q + r) + 1 by omega]
    simp only [cmpN]
    exact cmpN_add q r _ _
theorem cmpN_app : ∀ (q : Nat) (s l t : List Int), 64 * q ≤ l.length → cmpN q s (l ++ t) = ((cmpN q s l).1, (cmpN q s l).2 ++ t)
  | 0, s, l, t, _ => rfl
  | q + 1, s, l, t, h => by
    simp only [cmpN]
    rw [List.take_append_of_le_length (by omega), List.drop_append_of_le_length (by omega)]
    exact cmpN_app q _ _ t (by simp; omega)
theorem cmpN_len : ∀ (q : Nat) (s l : List Int), (cmpN q s l).2.length = l.length - 64 * q
  | 0, s, l => by simp [cmpN]
  | q + 1, s, l => by simp only [cmpN]; rw [cmpN_len q]; simp; omega
theorem cmpN_eight : ∀ (q : Nat) {s : List Int} (l : List Int), eight s → eight (cmpN q s l).1
  | 0, s, l, h => h
  | q + 1, s, l, h => cmpN_eight q _ (blk_eight _ h)

theorem writeL {β : Type} {F : Nat} {n : Int} {b : List Int} {K : List Int → List Int → Option β} (hF : 100 ≤ F) : ∀ (q k : Nat) (s l : List Int), eight s → l.length / 64 = q → q < k → l.length ≤ 70368744177664 →
    f74_1_l3 F n b K k s l = K (cmpN q s l).1 (cmpN q s l).2
  | 0, k, s, l, he, hq, hk, hl => by
    obtain ⟨k, rfl⟩ : ∃ j, k = j + 1 := ⟨k - 1, by omega⟩
    simp only [f74_1_l3]
    rw [cf (by omega)]; rfl
  | q + 1, k, s, l, he, hq, hk, hl => by
    obtain ⟨k, rfl⟩ : ∃ j, k = j + 1 := ⟨k - 1, by omega⟩
    have h64 : 64 ≤ l.length := by omega
    have e1 : (l.drop 64).take ((((l.length : Nat) : Int) - 64).toNat) = l.drop 64 := List.take_of_length_le (by simp; omega)
    simp only [f74_1_l3, e1, List.drop_zero, List.nil_append]
    rw [ct (by omega), ct (by omega), blkP hF he (by simp; omega), ct (by omega), ct (by simp; omega)]
    exact writeL hF q k _ _ (blk_eight _ he) (by simp; omega) (by omega) (by simp; omega)

def byt (n : Int) (j : Nat) : Int := IntKind.u8.wrap (ishr .u64 n ((8 * j : Nat) : Int))
/-- A number's eight bytes, the highest first. -/
def bes (n : Int) : Nat → List Int
  | 0 => []
  | m + 1 => byt n m :: bes n m

def setB (n : Int) : Nat → Nat → List Int → List Int
  | 0, _, xs => xs
  | m + 1, i, xs => setB n m (i + 1) (xs.set (7 - i) (byt n i))

theorem setB_len (n : Int) : ∀ m i xs, (setB n m i xs).length = xs.length
  | 0, _, _ => rfl
  | m + 1, i, xs => by rw [setB, setB_len n m]; simp
theorem setB_eq (n : Int) {xs : List Int} (h : xs.length = 8) : setB n 8 0 xs = bes n 8 := by
  match xs, h with
  | [a, b, c, d, e, f, g, h], _ => rfl

theorem bitsL {β : Type} {F L cp : Nat} {n : Int} {s w : List Int} {y : Int} {K : List Int → Option β} {A C : List Int} (hA : A.length + 8 = L) (hL : L ≤ 128) : ∀ (m i k : Nat) (xs : List Int), i + m = 8 → m < k → xs.length = 8 →
    f75_1_l10 F 0 L cp n s y w K k (i : Int) (A ++ (xs ++ C)) = K (A ++ (setB n m i xs ++ C))
  | 0, i, k, xs, hi, hk, hx => by
    obtain ⟨k, rfl⟩ : ∃ j, k = j + 1 := ⟨k - 1, by omega⟩
    simp only [f75_1_l10]
    rw [cf (by omega)]; rfl
  | m + 1, i, k, xs, hi, hk, hx => by
    obtain ⟨k, rfl⟩ : ∃ j, k = j + 1 := ⟨k - 1, by omega⟩
    have e1 : IntKind.i64.wrap (8 * (i : Int)) = ((8 * i : Nat) : Int) := by rw [w64 (by omega) (by omega)]; omega
    have e2 : IntKind.i64.wrap (IntKind.i64.wrap (((L : Nat) : Int) - 1) - (i : Int)) = ((A.length + (7 - i) : Nat) : Int) := by rw [w64 (x := ((L : Nat) : Int) - 1) (by omega) (by omega), w64 (by omega) (by omega)]; omega
    have e4 : IntKind.i64.wrap ((i : Int) + 1) = ((i + 1 : Nat) : Int) := by rw [w64 (by omega) (by omega)]; omega
    have e5 : (A ++ (xs ++ C)).set (A.length + (7 - i)) (byt n i) = A ++ (xs.set (7 - i) (byt n i) ++ C) := by
      rw [List.set_append_right _ _ (by omega), List.set_append_left _ _ (by omega)]
      congr 2
      rw [show A.length + (7 - i) - A.length = 7 - i by omega]
    have e6 : (A ++ (xs ++ C)).length = A.length + 8 + C.length := by simp [hx]; omega
    simp only [f75_1_l10, e1, e2, e4, Int.toNat_natCast, Nat.zero_add]
    rw [ct (by omega), cf (by omega), ct (by omega), ct (by omega)]
    rw [show IntKind.u8.wrap (ishr .u64 n ((8 * i : Nat) : Int)) = byt n i from rfl, e5]
    exact bitsL hA hL m (i + 1) k _ (by omega) (by omega) (by simp [hx])

theorem getD_take {l : List Int} {n i : Nat} (h : i < n) : (l.take n).getD i 0 = l.getD i 0 := by
  rw [List.getD_eq_getElem?_getD, List.getD_eq_getElem?_getD, List.getElem?_take_of_lt h]

theorem word_take {b : List Int} {i : Nat} (h : i < 16) : word (b.take 64) i = word b i := by
  simp only [word]
  rw [getD_take (by omega), getD_take (by omega), getD_take (by omega), getD_take (by omega)]

theorem ldr_take {b : List Int} : ∀ (m i : Nat) (acc : List Int), i + m = 16 → ldr (b.take 64) m i acc = ldr b m i acc
  | 0, i, acc, h => rfl
  | m + 1, i, acc, h => by simp only [ldr]; rw [word_take (by omega), ldr_take m (i + 1) _ (by omega)]

theorem blk_take (s b : List Int) : blk s (b.take 64) = blk s b := by
  simp only [blk, wds]; rw [ldr_take 16 0 _ (by omega)]

theorem lastL {β : Type} {F : Nat} {s0 w buf : List Int} {y : Int} {K : List Int → Option β} (hF : 100 ≤ F) : ∀ (r k lo cp : Nat) (s : List Int), eight s → r < k → r ≤ 2 → lo + 64 * r ≤ buf.length → 64 * r ≤ cp →
    f75_1_l15 F s0 y w buf K k lo (64 * r) cp s = K (cmpN r s ((buf.drop lo).take (64 * r))).1
  | 0, k, lo, cp, s, he, hk, hr, hb, hc => by
    obtain ⟨k, rfl⟩ : ∃ j, k = j + 1 := ⟨k - 1, by omega⟩
    simp only [f75_1_l15]
    rw [cf (by omega)]; rfl
  | r + 1, k, lo, cp, s, he, hk, hr, hb, hc => by
    obtain ⟨k, rfl⟩ : ∃ j, k = j + 1 := ⟨k - 1, by omega⟩
    have e1 : (((64 * (r + 1) : Nat) : Int) - 64).toNat = 64 * r := by omega
    simp only [f75_1_l15, e1]
    rw [ct (by omega), blkP hF he (by simp; omega), ct (by omega)]
    rw [lastL hF r k (lo + 64) (cp - 64) _ (blk_eight _ he) (by omega) (by omega) (by omega) (by omega)]
    simp only [cmpN]
    rw [blk_take, List.drop_take, List.drop_drop, show 64 * (r + 1) - 64 = 64 * r by omega]

def outs (s : List Int) : Nat → Nat → List Int → List Int
  | 0, _, acc => acc
  | m + 1, i, acc => outs s m (i + 1) (acc ++ [IntKind.u8.wrap (ishr .u32 (s.getD i 0) 24), IntKind.u8.wrap (ishr .u32 (s.getD i 0) 16), IntKind.u8.wrap (ishr .u32 (s.getD i 0) 8), IntKind.u8.wrap (s.getD i 0)])

theorem outP {β : Type} {F : Nat} {s s0 w : List Int} {y : Int} {K : List Int → Option β} : ∀ (m i k : Nat) (acc : List Int), i + m = 8 → m < k → acc.length ≤ 4 * i →
    f75_1_l20 F s s0 y w K k (i : Int) acc = K (outs s m i acc)
  | 0, i, k, acc, hi, hk, ha => by
    obtain ⟨k, rfl⟩ : ∃ j, k = j + 1 := ⟨k - 1, by omega⟩
    simp only [f75_1_l20]
    rw [cf (by omega)]; rfl
  | m + 1, i, k, acc, hi, hk, ha => by
    obtain ⟨k, rfl⟩ : ∃ j, k = j + 1 := ⟨k - 1, by omega⟩
    have e4 : IntKind.i64.wrap ((i : Int) + 1) = ((i + 1 : Nat) : Int) := by rw [w64 (by omega) (by omega)]; omega
    simp only [f75_1_l20, e4, Int.toNat_natCast]
    rw [ct (by omega), ct (by omega), ct (by omega)]
    exact outP m (i + 1) k _ (by omega) (by omega) (by simp; omega)

theorem outR {β : Type} {F : Nat} {s b : List Int} {K : List Int → Option β} (hs : s.length = 8) : ∀ (m i k : Nat) (acc : List Int), i + m = 8 → m < k → acc.length ≤ 4 * i →
    f72_1_l19 F b s K k (i : Int) acc = K (outs s m i acc)
  | 0, i, k, acc, hi, hk, ha => by
    obtain ⟨k, rfl⟩ : ∃ j, k = j + 1 := ⟨k - 1, by omega⟩
    simp only [f72_1_l19]
    rw [cf (by omega)]; rfl
  | m + 1, i, k, acc, hi, hk, ha => by
    obtain ⟨k, rfl⟩ : ∃ j, k = j + 1 := ⟨k - 1, by omega⟩
    have e4 : IntKind.i64.wrap ((i : Int) + 1) = ((i + 1 : Nat) : Int) := by rw [w64 (by omega) (by omega)]; omega
    simp only [f72_1_l19, e4, Int.toNat_natCast, hs]
    rw [ct (by omega), ct (by omega), ct (by omega), ct (by omega), ct (by omega), ct (by omega), ct (by omega), ct (by omega), ct (by omega), ct (by omega)]
    exact outR hs m (i + 1) k _ (by omega) (by omega) (by simp; omega)

/-- The numbers ahead of all blocks. -/
def ini : List Int := [1779033703, 3144134277, 1013904242, 2773480762, 1359893119, 2600822924, 528734635, 1541459225]
theorem ini_eight : eight ini := ⟨_, _, _, _, _, _, _, _, rfl⟩

/-- How many bytes 0 stand behind the first one that is laid on. -/
def zs (n : Nat) : Nat := if n % 64 < 56 then 55 - n % 64 else 119 - n % 64
/-- What is laid on behind n bytes. -/
def pad (n : Nat) : List Int := [128] ++ (List.replicate (zs n) 0 ++ bes ((8 * n : Nat) : Int) 8)
def blks (n : Nat) : Nat := if n % 64 < 56 then 1 else 2
theorem pad_len (n : Nat) : (pad n).length = 1 + zs n + 8 := by simp [pad, bes]; omega

/-- The digest of bytes. -/
def dig (b : List Int) : ByteArray := ofInts (outs (cmpN (b.length / 64 + blks b.length) ini (b ++ pad b.length)).1 8 0 [])

theorem zeroL {β : Type} {F : Nat} {b : List Int} {K : List Int → Option β} : ∀ (m k : Nat) (acc : List Int), (acc.length + m) % 64 = 56 → m < 64 → m < k → acc.length + m ≤ 1000000 →
    f72_1_l4 F b K k acc = K (acc ++ List.replicate m 0)
  | 0, k, acc, hm, h6, hk, ha => by
    obtain ⟨k, rfl⟩ : ∃ j, k = j + 1 := ⟨k - 1, by omega⟩
    have : ((((acc.length : Nat) : Int).tmod 64) != 56) = false := by
      rw [show (64 : Int) = ((64 : Nat) : Int) from rfl, tmod_nn, show acc.length % 64 = 56 by omega]; rfl
    simp only [f72_1_l4, this, cond_false, List.replicate_zero, List.append_nil]
  | m + 1, k, acc, hm, h6, hk, ha => by
    obtain ⟨k, rfl⟩ : ∃ j, k = j + 1 := ⟨k - 1, by omega⟩
    have : ((((acc.length : Nat) : Int).tmod 64) != 56) = true := by
      rw [show (64 : Int) = ((64 : Nat) : Int) from rfl, tmod_nn]
      have h0 : ¬ (acc.length % 64 = 56) := by omega
      rw [bne_iff_ne]; intro h1; exact h0 (by exact_mod_cast h1)
    simp only [f72_1_l4, this, cond_true]
    have hl1 : (acc ++ [(0 : Int)]).length = acc.length + 1 := by simp
    rw [ct (by omega), zeroL m k (acc ++ [0]) (by rw [hl1]; omega) (by omega) (by omega) (by rw [hl1]; omega), List.append_assoc]
    rfl

theorem besL {β : Type} {F : Nat} {n : Int} {b : List Int} {K : List Int → Option β} : ∀ (m k : Nat) (acc : List Int), m ≤ 8 → m < k → acc.length ≤ 1000000 - m →
    f72_1_l8 F n b K k ((m : Int) - 1) acc = K (acc ++ bes n m)
  | 0, k, acc, hm, hk, ha => by
    obtain ⟨k, rfl⟩ : ∃ j, k = j + 1 := ⟨k - 1, by omega⟩
    simp only [f72_1_l8]
    rw [cf (by omega)]; simp [bes]
  | m + 1, k, acc, hm, hk, ha => by
    obtain ⟨k, rfl⟩ : ∃ j, k = j + 1 := ⟨k - 1, by omega⟩
    have e1 : IntKind.i64.wrap (8 * (((m + 1 : Nat) : Int) - 1)) = ((8 * m : Nat) : Int) := by rw [w64 (by omega) (by omega)]; omega
    have e2 : IntKind.u64.wrap ((8 * m : Nat) : Int) = ((8 * m : Nat) : Int) := wu64 (by omega) (by omega)
    have e3 : IntKind.i64.wrap ((((m + 1 : Nat) : Int) - 1) - 1) = (m : Int) - 1 := by rw [w64 (by omega) (by omega)]; omega
    simp only [f72_1_l8, e1, e2, e3]
    rw [ct (by omega), cf (by omega), ct (by omega), besL m k _ (by omega) (by omega) (by simp; omega), List.append_assoc]
    rfl

theorem blocksL {β : Type} {F : Nat} {b all : List Int} {K : List Int → Option β} (hF : 100 ≤ F) (hall : all.length ≤ 1000000) : ∀ (q k at_ : Nat) (h : List Int), eight h → at_ + 64 * q = all.length → q < k →
    f72_1_l14 F b all k64 K k (at_ : Int) h = K (cmpN q h (all.drop at_)).1
  | 0, k, at_, h, he, hq, hk => by
    obtain ⟨k, rfl⟩ : ∃ j, k = j + 1 := ⟨k - 1, by omega⟩
    have e1 : IntKind.i64.wrap ((at_ : Int) + 64) = ((at_ + 64 : Nat) : Int) := by rw [w64 (by omega) (by omega)]; omega
    simp only [f72_1_l14, e1]
    rw [cf (by omega)]; rfl
  | q + 1, k, at_, h, he, hq, hk => by
    obtain ⟨k, rfl⟩ : ∃ j, k = j + 1 := ⟨k - 1, by omega⟩
    have e1 : IntKind.i64.wrap ((at_ : Int) + 64) = ((at_ + 64 : Nat) : Int) := by rw [w64 (by omega) (by omega)]; omega
    have e2 : (((at_ + 64 : Nat) : Int) - (at_ : Int)).toNat = 64 := by omega
    simp only [f72_1_l14, e1, e2, Nat.zero_add, Int.toNat_natCast]
    rw [ct (by omega), ct (by omega), blkR hF he (by simp; omega), blocksL hF hall q k (at_ + 64) _ (blk_eight _ he) (by omega) (by omega)]
    simp only [cmpN]
    rw [List.drop_drop]

theorem sumR {β : Type} {F : Nat} {b : List Int} {K : ByteArray → Option β} (hb : b.length ≤ 100000) (hF : 2000 ≤ F) : f72_1 F b K = K (dig b) := by
  have e1 : IntKind.u64.wrap ((b.length : Nat) : Int) = ((b.length : Nat) : Int) := wu64 (by omega) (by omega)
  have e2 : IntKind.u64.wrap (((b.length : Nat) : Int) * 8) = ((8 * b.length : Nat) : Int) := by rw [wu64 (by omega) (by omega)]; omega
  have hz : zs b.length < 64 ∧ (b.length + 1 + zs b.length) % 64 = 56 := by unfold zs; split <;> omega
  have hpl := pad_len b.length
  have hbl : (b ++ pad b.length).length = 64 * (b.length / 64 + blks b.length) := by
    rw [List.length_append, hpl]; unfold zs blks; split <;> omega
  simp only [f72_1, e1, e2]
  rw [ct (by omega), ct (by omega), zeroL (zs b.length) F _ (by simp; omega) (by omega) (by omega) (by simp; omega)]
  have h8 := besL (F := F) (n := ((8 * b.length : Nat) : Int)) (b := b) (K := fun x8 => f90_1 F fun x9 => f91_1 F fun x10 => f72_1_l14 F b x8 x10 (fun x17 => f72_1_l19 F b x17 (fun x22 => K (ofInts x22)) F 0 []) F 0 x9) 8 F (b ++ [128] ++ List.replicate (zs b.length) 0) (by omega) (by omega) (by simp; omega)
  rw [show ((8 : Nat) : Int) - 1 = 7 from rfl] at h8
  rw [h8]
  rw [show b ++ [128] ++ List.replicate (zs b.length) 0 ++ bes ((8 * b.length : Nat) : Int) 8 = b ++ pad b.length by simp [pad]]
  simp only [f90_1, f91_1]
  have hB := blocksL (F := F) (b := b) (all := b ++ pad b.length) (K := fun x17 => f72_1_l19 F b x17 (fun x22 => K (ofInts x22)) F 0 []) (by omega) (by rw [hbl]; unfold blks; split <;> omega)
    (b.length / 64 + blks b.length) F 0 ini ini_eight (by omega) (by unfold blks; split <;> omega)
  rw [show ((0 : Nat) : Int) = 0 from rfl, List.drop_zero] at hB
  refine hB.trans ?_
  obtain ⟨a, b', c, d, e, f, g, h, hx⟩ := cmpN_eight (b.length / 64 + blks b.length) (b ++ pad b.length) ini_eight
  have := outR (F := F) (s := (cmpN (b.length / 64 + blks b.length) ini (b ++ pad b.length)).1) (b := b) (K := fun x22 => K (ofInts x22)) (by rw [hx]; rfl) 8 0 F [] (by omega) (by omega) (by simp)
  exact this

/-- What a hash has behind all these bytes. -/
def HS (all s : List Int) (n : Int) (w : List Int) : Prop := s = (cmpN (all.length / 64) ini all).1 ∧ w = (cmpN (all.length / 64) ini all).2 ∧ n = ((all.length : Nat) : Int)

theorem HS_eight {all s w : List Int} {n : Int} (h : HS all s n w) : eight s := by rw [h.1]; exact cmpN_eight _ _ ini_eight
theorem HS_len {all s w : List Int} {n : Int} (h : HS all s n w) : w.length = all.length % 64 := by rw [h.2.1, cmpN_len]; omega

theorem HS_nil : HS [] ini 0 [] := ⟨rfl, rfl, rfl⟩

theorem HS_app {all s w b : List Int} {n : Int} (h : HS all s n w) : cmpN ((w ++ b).length / 64) s (w ++ b) = cmpN ((all ++ b).length / 64) ini (all ++ b) := by
  have hl := HS_len h
  have : (all ++ b).length / 64 = all.length / 64 + (w ++ b).length / 64 := by simp only [List.length_append, hl]; omega
  rw [this, cmpN_add, cmpN_app (all.length / 64) ini all b (by omega), ← h.1, ← h.2.1]

/-- Some more bytes. -/
theorem writeP {β : Type} {F : Nat} {all s w b : List Int} {n : Int} {K : List Int → Int → List Int → Option β} (hF : 2000 ≤ F) (h : HS all s n w) (hb : (all ++ b).length ≤ 100000) :
    ∃ s' w', HS (all ++ b) s' (((all ++ b).length : Nat) : Int) w' ∧ f74_1 F s n w b K = K s' (((all ++ b).length : Nat) : Int) w' := by
  have hl := HS_len h
  have hab : (all ++ b).length = all.length + b.length := by simp
  refine ⟨_, _, ⟨rfl, rfl, rfl⟩, ?_⟩
  have e1 : IntKind.u64.wrap ((b.length : Nat) : Int) = ((b.length : Nat) : Int) := wu64 (by omega) (by omega)
  have e2 : IntKind.u64.wrap (n + ((b.length : Nat) : Int)) = (((all ++ b).length : Nat) : Int) := by rw [h.2.2, wu64 (by omega) (by omega)]; simp
  simp only [f74_1, e1, e2]
  rw [ct (by omega), writeL (by omega) ((w ++ b).length / 64) F s (w ++ b) (HS_eight h) rfl (by simp; omega) (by simp; omega), HS_app h]

/-- The digest of all that came. -/
theorem sumP {β : Type} {F : Nat} {all s w : List Int} {n : Int} {K : ByteArray → Option β} (hF : 2000 ≤ F) (h : HS all s n w) (hb : all.length ≤ 100000) : f75_1 F s n w K = K (dig all) := by
  have hl := HS_len h
  have he := HS_eight h
  have e2 : IntKind.u64.wrap (8 * n) = ((8 * all.length : Nat) : Int) := by rw [h.2.2, wu64 (by omega) (by omega)]; omega
  have e3 : min w.length 64 = w.length := by omega
  have e4 : w.take 64 = w := List.take_of_length_le (by omega)
  have hbuf : ((List.replicate 128 (0 : Int)).take 0 ++ (w.take 64 ++ (List.replicate 128 0).drop (0 + (min w.length 64)))).set (0 + (((min w.length 64 : Nat) : Int).toNat)) 128 = w ++ ([128] ++ List.replicate (127 - w.length) 0) := by
    rw [e3, e4, Int.toNat_natCast, List.take_zero, List.nil_append, Nat.zero_add, List.set_append_right _ _ (by omega), Nat.sub_self, List.drop_replicate, show 128 - w.length = (127 - w.length) + 1 by omega, List.replicate_succ, List.set_cons_zero]
    rfl
  have hlen0 : ((List.replicate 128 (0 : Int)).take 0 ++ (w.take 64 ++ (List.replicate 128 0).drop (0 + (min w.length 64)))).length = 128 := by
    rw [e3, e4]; simp; omega
  have hall : cmpN (all.length / 64 + blks all.length) ini (all ++ pad all.length) = cmpN (blks all.length) s (w ++ pad all.length) := by
    rw [cmpN_add, cmpN_app _ _ _ _ (by omega), ← h.1, ← h.2.1]
  have fin : ∀ s', eight s' → f75_1_l20 F s' s n w (fun x27 => K (ofInts x27)) F 0 [] = K (ofInts (outs s' 8 0 [])) := fun s' _ =>
    outP (F := F) (s := s') (s0 := s) (w := w) (y := n) (K := fun x27 => K (ofInts x27)) 8 0 F [] (by omega) (by omega) (by simp)
  simp only [f75_1, hbuf]
  rw [ct (by omega), ct (by rw [hlen0]; omega), e2]
  unfold dig
  rw [hall]
  by_cases hw : w.length < 56
  · rw [cf (by omega)]
    have hbk : blks all.length = 1 := by unfold blks; rw [if_pos (by omega)]
    have hzs : zs all.length = 55 - w.length := by unfold zs; rw [if_pos (by omega), hl]
    have hsplit : w ++ ([128] ++ List.replicate (127 - w.length) 0) = (w ++ ([128] ++ List.replicate (zs all.length) 0)) ++ (List.replicate 8 0 ++ List.replicate 64 0) := by
      rw [hzs, show 127 - w.length = (55 - w.length) + (8 + 64) by omega, ← List.replicate_append_replicate, ← List.replicate_append_replicate]
      simp
    rw [hsplit]
    have hb1 := bitsL (F := F) (L := 64) (cp := 128) (n := ((8 * all.length : Nat) : Int)) (s := s) (w := w) (y := n) (A := w ++ ([128] ++ List.replicate (zs all.length) 0)) (C := List.replicate 64 0)
      (K := fun x28 => f75_1_l15 F s n w x28 (fun x29 => f75_1_l20 F x29 s n w (fun x30 => K (ofInts x30)) F 0 []) F 0 64 128 s) (by simp [hzs]; omega) (by omega) 8 0 F (List.replicate 8 0) (by omega) (by omega) (by simp)
    rw [show ((0 : Nat) : Int) = 0 from rfl] at hb1
    refine hb1.trans ?_
    rw [setB_eq _ (by simp)]
    have hpre : (w ++ ([128] ++ List.replicate (zs all.length) 0)) ++ (bes ((8 * all.length : Nat) : Int) 8 ++ List.replicate 64 0) = (w ++ pad all.length) ++ List.replicate 64 0 := by simp [pad]
    rw [hpre]
    have hpl : (w ++ pad all.length).length = 64 := by rw [List.length_append, pad_len, hzs]; omega
    have hL := lastL (F := F) (s0 := s) (w := w) (y := n) (buf := (w ++ pad all.length) ++ List.replicate 64 0) (K := fun x29 => f75_1_l20 F x29 s n w (fun x30 => K (ofInts x30)) F 0 []) (by omega) 1 F 0 128 s he (by omega) (by omega) (by rw [List.length_append, hpl]; simp) (by omega)
    refine hL.trans ?_
    rw [List.drop_zero, List.take_append_of_le_length (by omega), List.take_of_length_le (by omega), fin _ (cmpN_eight _ _ he), hbk]
  · rw [ct (by omega)]
    have hbk : blks all.length = 2 := by unfold blks; rw [if_neg (by omega)]
    have hzs : zs all.length = 119 - w.length := by unfold zs; rw [if_neg (by omega), hl]
    have hsplit : w ++ ([128] ++ List.replicate (127 - w.length) 0) = (w ++ ([128] ++ List.replicate (zs all.length) 0)) ++ (List.replicate 8 0 ++ []) := by
      rw [hzs, show 127 - w.length = (119 - w.length) + 8 by omega, ← List.replicate_append_replicate]
      simp
    rw [hsplit]
    have hb1 := bitsL (F := F) (L := 128) (cp := 128) (n := ((8 * all.length : Nat) : Int)) (s := s) (w := w) (y := n) (A := w ++ ([128] ++ List.replicate (zs all.length) 0)) (C := [])
      (K := fun x28 => f75_1_l15 F s n w x28 (fun x29 => f75_1_l20 F x29 s n w (fun x30 => K (ofInts x30)) F 0 []) F 0 128 128 s) (by simp [hzs]; omega) (by omega) 8 0 F (List.replicate 8 0) (by omega) (by omega) (by simp)
    rw [show ((0 : Nat) : Int) = 0 from rfl] at hb1
    refine hb1.trans ?_
    rw [setB_eq _ (by simp)]
    have hpre : (w ++ ([128] ++ List.replicate (zs all.length) 0)) ++ (bes ((8 * all.length : Nat) : Int) 8 ++ []) = w ++ pad all.length := by simp [pad]
    rw [hpre]
    have hpl : (w ++ pad all.length).length = 128 := by rw [List.length_append, pad_len, hzs]; omega
    have hL := lastL (F := F) (s0 := s) (w := w) (y := n) (buf := w ++ pad all.length) (K := fun x29 => f75_1_l20 F x29 s n w (fun x30 => K (ofInts x30)) F 0 []) (by omega) 2 F 0 128 s he (by omega) (by omega) (by rw [hpl]; omega) (by omega)
    refine hL.trans ?_
    rw [List.drop_zero, List.take_of_length_le (by omega), fin _ (cmpN_eight _ _ he), hbk]

end Go.Proofs.Ytlokielmpdjedaa.X
end

section
/- SHA-256: the digest of bytes, in one go. -/
namespace Go.Proofs.Ytlokielmpdjedaa.X
open Go Go.Proofs.Ytlokielmpdjedaa.Ev
set_option linter.unusedSectionVars false
variable [FZ]
set_option linter.unusedVariables false
set_option linter.unusedSimpArgs false

/-- The digest of bytes, in one go. -/
theorem sumOne {β : Type} {F : Nat} {b : List Int} {K : ByteArray → Option β} (hF : 2000 ≤ F) (hb : b.length ≤ 100000) : f71_1 F b K = K (dig b) := by
  simp only [f71_1, f73_1, f93_1]
  obtain ⟨s', w', h1, h2⟩ := writeP (F := F) (b := b) (K := fun x3 x4 x5 => f75_1 F x3 x4 x5 fun x6 => K x6) hF HS_nil (by simpa using hb)
  refine h2.trans ?_
  rw [sumP hF h1 (by simpa using hb)]
  simp

end Go.Proofs.Ytlokielmpdjedaa.X
end

section
/- SHA-256: what must come of fixed calls. -/
namespace Go.Proofs.Ytlokielmpdjedaa.X
open Go Go.Proofs.Ytlokielmpdjedaa.Ev
set_option linter.unusedSectionVars false
variable [FZ]
set_option linter.unusedVariables false
set_option linter.unusedSimpArgs false

theorem toInts_mk (a : Array UInt8) : toInts ⟨a⟩ = a.toList.map fun c => (c.toNat : Int) := rfl

theorem shaKnown {β : Type} {F : Nat} {K : Bool → Option β} (hF : 2000 ≤ F) : f70_1 F K = K true := by
  obtain ⟨s', w', h1, h2⟩ := writeP (F := F) (b := [97, 98, 99]) (K := fun x3 x4 x5 => f75_1 F x3 x4 x5 (fun x6 => cond ((x6.size : Int) == 32) (cond (decide ((0 : Int) ≤ (0 : Int) ∧ (0 : Int) ≤ (4 : Int) ∧ (4 : Int) ≤ (x6.size : Int))) (cond ((x6.extract 0 4).toList == (⟨#[186, 120, 22, 191]⟩ : ByteArray).toList) (f71_1 F [97, 98, 99] (fun x7 => cond (x7.toList == x6.toList) (f76_1 F x3 x4 x5 (K (x4 == 3)) ) (K false)) ) (K false)) none) (K false))) hF HS_nil (by decide)
  simp only [f70_1, f73_1, f93_1]
  refine h2.trans ?_
  rw [sumP hF h1 (by decide), sumOne hF (by decide)]
  have e1 : ((dig ([] ++ [97, 98, 99])).size : Int) == 32 := by decide +kernel
  have e2 : (((dig ([] ++ [97, 98, 99])).extract 0 4).toList == (⟨#[186, 120, 22, 191]⟩ : ByteArray).toList) = true := by decide +kernel
  simp only [f76_1]
  rw [e1, cond_true, e2, cond_true]
  have e3 : (0 : Int) ≤ (0 : Int) ∧ (0 : Int) ≤ (4 : Int) ∧ (4 : Int) ≤ ((dig ([] ++ [97, 98, 99])).size : Int) := by
    have := of_decide_eq_true (p := ((dig ([] ++ [97, 98, 99])).size : Int) = 32) (by decide +kernel)
    omega
  rw [ct e3]
  simp

end Go.Proofs.Ytlokielmpdjedaa.X
end
