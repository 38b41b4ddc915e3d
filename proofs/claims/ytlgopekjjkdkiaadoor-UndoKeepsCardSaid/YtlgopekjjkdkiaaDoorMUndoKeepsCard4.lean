/- Merged: EvS18, EvS19, Rep, RepC, EvF32, EvF67, EvF51, EvF36, EvF50, EvF31, EvF37, EvF65, EvF66, EvF48, EvF49, EvF38, EvF39, EvF16, EvF29v6206, EvF16v4108, EvF40, Trm, TrimC, EvF75, EvF56, EvF57, EvF76, EvF58, EvF60. -/
import Derived.Test.YtlgopekjjkdkiaaDoorMUndoKeepsCard3
import Derived.ChangeArms
import Derived.OpenShut
import Derived.Below
import Derived.Carry
import Derived.ChangeShapes
import Derived.WideShapes
import Derived.Test.YtlgopekjjkdkiaaDoorProg
import Derived.Shelf.Strings.Repeat
import Derived.KernelRfl
import Derived.Shelf.Strings.SlTrimAscii
section
/- A row's arguments, opened as typed values. -/
namespace Go.Proofs.YtlgopekjjkdkiaaDoor.Ev
open Go Go.RowKit
set_option linter.unusedVariables false
set_option linter.unusedSimpArgs false
set_option linter.unusedSectionVars false
variable [FZ]

def scK (P : Program) (e : TypeId) : Option EK := match P.underlying e with
  | some (.int k) => some (.int k)
  | some .bool => some .bool
  | some .string => some .str
  | _ => none

def scS (P : Program) (e : TypeId) : Option SK := match P.underlying e with
  | some (.int k) => some (.int k)
  | some .bool => some .bool
  | some .string => some .str
  | _ => none

def wfS : (q : SK) → q.den → Prop
  | .int k, n => (Lit.int k n).wf = true
  | .bool, _ => True
  | .str, s => s.size ≤ maxLen

def wfE : (k : EK) → k.den → Prop
  | .int k, n => (Lit.int k n).wf = true
  | .bool, _ => True
  | .str, s => s.size ≤ maxLen
  | .pair a b, p => wfE a p.1 ∧ wfE b p.2
  | .sl q, x => x.dat.length ≤ maxLen ∧ ∀ y ∈ x.dat, wfS q y

def wfD : (s : SL) → s.den → Prop
  | .int k, n => (Lit.int k n).wf = true
  | .str, s => s.size ≤ maxLen
  | .seq k n, l => l.length = n ∧ ∀ x ∈ l, wfE k x
  | .sl q, x => wfE (.sl q) x
  | _, _ => True

def wfL : (l : List SL) → denL l → Prop
  | [], _ => True
  | s :: r, d => wfD s d.1 ∧ wfL r d.2

def appD : (a b : List SL) → denL a → denL b → denL (a ++ b)
  | [], _, _, y => y
  | _ :: r, b, x, y => (x.1, appD r b x.2 y)

theorem encL_app : ∀ (a b : List SL) (x : denL a) (y : denL b), encL (a ++ b) (appD a b x y) = encL a x ++ encL b y
  | [], _, _, _ => rfl
  | s :: r, b, x, y => by
    show s.enc x.1 :: encL (r ++ b) (appD r b x.2 y) = s.enc x.1 :: (encL r x.2 ++ encL b y)
    rw [encL_app r b]

theorem wfL_app : ∀ (a b : List SL) (x : denL a) (y : denL b), wfL a x → wfL b y → wfL (a ++ b) (appD a b x y)
  | [], _, _, _, _, h => h
  | s :: r, b, x, y, hx, hy => ⟨hx.1, wfL_app r b x.2 y hx.2 hy⟩

section
variable (P : Program)

def slFs (g : TypeId → Option (List SL)) : Nat → List Field → Option (List SL × Nat)
  | off, [] => some ([], off)
  | off, f :: r => if f.offset = off then (match g f.type, slFs g (off + P.cellsOf f.type) r with
    | some a, some (b, n) => some (a ++ b, n)
    | _, _ => none) else none

def slOf : Nat → TypeId → Option (List SL)
  | 0, _ => none
  | f + 1, t => match P.underlying t with
    | some (.int k) => some [.int k]
    | some .bool => some [.bool]
    | some .string => some [.str]
    | some (.array n e) => match scK P e with
      | some k => if P.cellsOf e = 1 ∧ P.cellsOf t = n then some [.seq k n] else none
      | none => none
    | some (.struct fs) => match slFs P (slOf f) 0 fs.toList with
      | some (l, n) => if n = P.cellsOf t then some l else none
      | none => none
    | some (.slice e) => match scS P e with
      | some q => if P.cellsOf e = 1 then some [.sl q] else none
      | none => none
    | _ => none
end

theorem pick_list {α : Type} {n : Nat} {R : Nat → α → Prop} (h : ∀ i, i < n → ∃ z, R i z) : ∃ l : List α, l.length = n ∧ ∀ i z, l[i]? = some z → R i z := by
  induction n with
  | zero => exact ⟨[], rfl, fun i z h => by simp at h⟩
  | succ n ih =>
    obtain ⟨l, h1, h2⟩ := ih fun i hi => h i (by omega)
    obtain ⟨z, hz⟩ := h n (by omega)
    refine ⟨l ++ [z], by simp [h1], fun i y hy => ?_⟩
    by_cases hi : i < n
    · rw [List.getElem?_append_left (by omega)] at hy; exact h2 i y hy
    · rw [List.getElem?_append_right (by omega)] at hy
      have : i = n := by
        have := (List.getElem?_eq_some_iff.1 hy).1
        simp at this; omega
      subst this
      rw [h1, Nat.sub_self] at hy
      cases hy; exact hz

theorem addr_add2 (a : Addr) (x y : Nat) : (a.add x).add y = a.add (x + y) := by
  unfold Addr.add
  by_cases hx : x = 0
  · subst hx; simp
  · by_cases hy : y = 0
    · subst hy; simp
    · simp [hx, hy, Nat.add_assoc]
theorem addr_add {a : Addr} (h : a.spot = none) (q : Nat) : a.add q = ⟨a.block, a.off + q, none⟩ := by
  cases a; simp only at h; subst h
  unfold Addr.add
  split
  · rename_i h; subst h; simp
  · simp

/-- What is known of an object that an argument shows. -/
structure Shown (w : World) (k : EK) (l : List k.den) (g : Gh) (v : Value) : Prop where
  len : l.length ≤ maxLen
  wf : ∀ x ∈ l, wfE k x
  obj : ∀ m, ObRel m g w ⟨true, [.seq k 0 l]⟩
  blk : ∀ b, g.addr = some b → b.1 < w.heap.size
  rel : ∀ (m : GM) id, m[id]? = some g → LRel m (.full id) v

theorem ghOf_ln (b : Option (Nat × Nat)) (sz : Nat) (k : EK) (l : List k.den) : (ghOf b sz [.seq k 0 l]).ln 0 = l.length ∧ (ghOf b sz [.seq k 0 l]).ew 0 = k.w := by
  obtain ⟨h1, h2⟩ := ghOf_seq b sz [.seq k 0 l] 0 k 0 l [] (drop0 _)
  exact ⟨h1.symm, h2.symm⟩

theorem shown_none (w : World) (k : EK) {a : Option Addr} : Shown w k [] (ghOf none 0 [.seq k 0 []]) (.slice a 0 0) := by
  refine ⟨Nat.zero_le _, fun x hx => (by cases hx), fun m => ⟨ghOf_seq _ _ _, [], ⟨[], [], rfl, ⟨.inl rfl, rfl⟩, rfl⟩, .inl ⟨rfl, rfl⟩⟩, fun b hb => (by cases hb), fun m id hid => ?_⟩
  exact ⟨_, hid, _, a, 0, hid, by rw [(ghOf_ln none 0 k []).1]; rfl, by rw [(ghOf_ln none 0 k []).1]; simp, fun c h => (by cases h), by rw [(ghOf_ln none 0 k []).1]; simp, .inl rfl⟩

section
variable {P : Program} {H : Type} {enc : TypeId × Value → H} {w : World} {base : Nat} {spare : Nat → Bool} {held : Bool}

def Opn (m : GM) (sl : List SL) (cs : List Value) (ps : List MemPlace) : Prop := ∃ d : denL sl, OCells m (encL sl d) cs ∧ wfL sl d

theorem sc_open {e : TypeId} {k : EK} {fuel : Nat} {c : List Value} {x : DataW H × List MemPlace} (hk : scK P e = some k) (h : DataW.trod enc P w base spare held fuel e c = some x) :
    ∃ z : k.den, c = k.cv z ∧ wfE k z ∧ x.2 = [] := by
  unfold scK at hk
  split at hk
  · rename_i k' ht
    cases hk
    obtain ⟨n, rfl, rfl, hw⟩ := DataW.trod_int ht h
    exact ⟨n, rfl, hw, rfl⟩
  · rename_i ht
    cases hk
    obtain ⟨b, rfl, rfl⟩ := DataW.trod_bool ht h
    exact ⟨b, rfl, trivial, rfl⟩
  · rename_i ht
    cases hk
    obtain ⟨s, rfl, rfl, hs⟩ := DataW.trod_string ht h
    exact ⟨s, rfl, hs, rfl⟩
  · cases hk

theorem sc_list {e : TypeId} {k : EK} {fuel : Nat} (hk : scK P e = some k) : ∀ (n : Nat) (cs : List Value) (xs : List (DataW H × List MemPlace)), cs.length = n → xs.length = n →
    (∀ i, i < n → DataW.trod enc P w base spare held fuel e ((cs.drop i).take 1) = xs[i]?) → ∃ l : List k.den, cs = cvs k l ∧ l.length = n ∧ (∀ x ∈ l, wfE k x) ∧ xs.flatMap (·.2) = []
  | 0, cs, xs, hc, hx, _ => by
    have := List.eq_nil_of_length_eq_zero hc
    have h2 := List.eq_nil_of_length_eq_zero hx
    subst this; subst h2
    exact ⟨[], rfl, rfl, fun x hx => (by cases hx), rfl⟩
  | n + 1, [], xs, hc, hx, _ => by simp at hc
  | n + 1, c :: cs, [], hc, hx, _ => by simp at hx
  | n + 1, c :: cs, x :: xs, hc, hx, h => by
    have h0 := h 0 (by omega)
    simp only [List.drop_zero, List.take_succ_cons, List.take_zero, List.getElem?_cons_zero] at h0
    obtain ⟨z, hz, hw, hp⟩ := sc_open hk h0
    obtain ⟨l, h1, h2, h3, h4⟩ := sc_list hk n cs xs (by simpa using hc) (by simpa using hx) fun i hi => by simpa using h (i + 1) (by omega)
    refine ⟨z :: l, ?_, by simp [h2], fun y hy => ?_, by simp [hp, h4]⟩
    · rw [h1] ; simp only [cvs, ← hz]; rfl
    · rcases List.mem_cons.1 hy with rfl | hy
      · exact hw
      · exact h3 y hy

theorem slice_core {e t : TypeId} {k : EK} (ht : P.underlying t = some (.slice e)) (hc : P.cellsOf e = k.w) (el : ∀ n cs (x : DataW H × List MemPlace), DataW.trod enc P w 0 (fun _ => true) held n e cs = some x → ∃ z : k.den, cs = k.cv z ∧ wfE k z)
    {a0 : Option Addr} {n0 c0 fuel : Nat} {x : DataW H × List MemPlace} (hf : DataW.trod enc P w 0 (fun _ => true) held fuel t [.slice a0 n0 c0] = some x) :
    ∃ (l : List k.den) (g : Gh), Shown w k l g (.slice a0 n0 c0) := by
  rcases DataW.trod_slice ht hf with ⟨h1, _⟩ | ⟨a, len, cap, elems, rest, n, _, h1, hx, hb, hle, hmax, hlen, hel, hsp, _⟩
  · cases h1
    exact ⟨[], _, shown_none w k⟩
  · simp only [List.cons.injEq, Value.slice.injEq, and_true] at h1
    obtain ⟨rfl, rfl, rfl⟩ := h1
    obtain ⟨hrl, hr⟩ := hsp rfl
    by_cases hcap : c0 = 0
    · subst hcap
      have : n0 = 0 := by omega
      subst this
      exact ⟨[], _, shown_none w k⟩
    have each : ∀ i, i < c0 → ∃ z : k.den, wfE k z ∧ ∀ j, j < k.w → w.cell? (a.add (i * k.w + j)) = (k.cv z)[j]? := by
      intro i hi
      obtain ⟨y, hy⟩ : ∃ y, (w.cells? 0 (a.add (i * P.cellsOf e)) (P.cellsOf e)).bind (DataW.trod enc P w 0 (fun _ => true) held n e) = some y := by
        by_cases hil : i < n0
        · exact ⟨_, (hel i hil).trans (List.getElem?_eq_getElem (by omega))⟩
        · have h2 := hr (i - n0) (by omega)
          rw [show n0 + (i - n0) = i by omega] at h2
          exact ⟨_, h2.trans (List.getElem?_eq_getElem (by omega))⟩
      rw [hc, Option.bind_eq_some_iff] at hy
      obtain ⟨cs, hcs, hy⟩ := hy
      obtain ⟨z, hcv, hwz⟩ := el n cs _ hy
      obtain ⟨_, _, hget⟩ := World.cells?_some hcs
      refine ⟨z, hwz, fun j hj => ?_⟩
      have := hget j hj
      rw [hcv] at this
      rw [← this]
      have e9 : (a.add (i * k.w)).add j = a.add (i * k.w + j) := addr_add2 a _ _
      first | rw [e9] | rw [hc, e9]
    obtain ⟨l, hl1, hl2⟩ := pick_list (n := n0) (R := fun i z => wfE k z ∧ ∀ j, j < k.w → w.cell? (a.add (i * k.w + j)) = (k.cv z)[j]?) fun i hi => each i (by omega)
    have hwp := EK.w_pos k
    have cellOf : ∀ q, q < c0 * k.w → ∃ u, w.cell? (a.add q) = some u := by
      intro q hq
      have hdiv : q / k.w < c0 := Nat.div_lt_of_lt_mul (by rw [Nat.mul_comm]; exact hq)
      obtain ⟨z, _, hz⟩ := each (q / k.w) hdiv
      have h3 := hz (q % k.w) (Nat.mod_lt _ hwp)
      rw [Nat.mul_comm, Nat.div_add_mod] at h3
      have : q % k.w < (k.cv z).length := by rw [cv_length]; exact Nat.mod_lt _ hwp
      rw [List.getElem?_eq_getElem this] at h3
      exact ⟨_, h3⟩
    have hpos : 0 < c0 * k.w := Nat.mul_pos (by omega) hwp
    obtain ⟨blk, ty, fr, hblk, hspot, hget⟩ : ∃ blk ty fr, w.heap[a.block]? = some (.cells blk ty fr) ∧ a.spot = none ∧ ∀ q, w.cell? (a.add q) = blk[a.off + q]? := by
      obtain ⟨u, hu⟩ := cellOf 0 hpos
      rw [show a.add 0 = a by simp [Addr.add]] at hu
      unfold World.cell? at hu
      split at hu
      · rename_i c ty fr hh
        have hh' : w.heap[a.block]? = some (.cells c ty fr) := hh
        split at hu
        · cases hu
        · rename_i hsn
          have hsn' : a.spot = none := by
            cases hq : a.spot with
            | none => rfl
            | some _ => exact absurd (by simp [hq]) hsn
          refine ⟨c, ty, fr, hh', hsn', fun q => ?_⟩
          rw [addr_add hsn' q]
          unfold World.cell?
          simp only [hh']
          rfl
      · cases hu
    have hsize : a.off + c0 * k.w ≤ blk.size := by
      obtain ⟨u, hu⟩ := cellOf (c0 * k.w - 1) (by omega)
      rw [hget] at hu
      have := (Array.getElem?_eq_some_iff.1 hu).1
      omega
    obtain ⟨g1, g2⟩ := ghOf_ln (some (a.block, a.off)) blk.size k l
    have haddr : a = at_ (a.block, a.off) 0 := by
      cases a; simp only at hspot; subst hspot; simp [at_]
    have hcl : (cvs k l).length = n0 * k.w := by rw [cvs_length, hl1]
    have hmul : n0 * k.w ≤ c0 * k.w := Nat.mul_le_mul_right _ hle
    refine ⟨l, ghOf (some (a.block, a.off)) blk.size [.seq k 0 l], by omega, fun x hx => ?_, fun m => ⟨ghOf_seq _ _ _, cvs k l, ⟨cvs k l, [], (List.append_nil _).symm, ⟨.inl rfl, rfl⟩, rfl⟩, .inr ⟨(a.block, a.off), blk, ty, fr, rfl, hblk, rfl, ?_, fun j hj => ?_, fun h0 => by cases h0⟩⟩, fun b hb => ?_, fun m id hid => ?_⟩
    · obtain ⟨i, hi⟩ := List.getElem?_of_mem hx
      exact (hl2 i x hi).1
    · rw [hcl]; simp only [ghOf]; omega
    · rw [hcl] at hj
      have hdiv : j / k.w < n0 := Nat.div_lt_of_lt_mul (by rw [Nat.mul_comm]; exact hj)
      have hmod := Nat.mod_lt j hwp
      have h4 := (hl2 (j / k.w) (l.getD (j / k.w) k.zero) (by rw [List.getD_eq_getElem?_getD, List.getElem?_eq_getElem (by omega)]; rfl)).2 (j % k.w) hmod
      have h5 := cvs_getD k l (j / k.w) (by omega) (j % k.w) hmod
      rw [Nat.mul_comm, Nat.div_add_mod] at h4 h5
      rw [hget] at h4
      rw [h5]; exact h4
    · cases hb; exact (Array.getElem?_eq_some_iff.1 hblk).1
    · refine ⟨_, hid, _, some a, c0, hid, by rw [g1, hl1], by rw [g1]; omega, fun c h => (by cases h), by rw [g1]; simp, .inr ⟨(a.block, a.off), rfl, ?_, ?_⟩⟩
      · simp only [Nat.zero_mul, Nat.add_zero]; rw [← haddr]
      · rw [g2]; simp only [ghOf, Nat.zero_add, Nat.add_zero]; omega


/-- What an argument shows is memory that nothing turns. -/
theorem shown_fz {q : SK} {l : List q.ek.den} {g : Gh} {a0 : Option Addr} {n0 c0 : Nat} (h : Shown w q.ek l g (.slice a0 n0 c0)) : n0 = l.length ∧ FzW (Ctx.of w fun _ => False) a0 c0 (cvs q.ek l) := by
  have hrel := h.rel [g] 0 rfl
  obtain ⟨g1, hg1, g2, A, C, hg2, hv, hle, _, hln, hb⟩ := hrel
  cases hg1
  cases hg2
  cases hv
  obtain ⟨hsg, cs, hoc, hpl⟩ := h.obj []
  have hlen := (hsg 0 q.ek 0 l [] (drop0 _)).1
  have hew := (hsg 0 q.ek 0 l [] (drop0 _)).2
  obtain ⟨_, _, rfl, ⟨_, rfl⟩, rfl⟩ := hoc
  rw [List.append_nil] at hpl
  refine ⟨by rw [hlen], ?_⟩
  have hcl : (cvs q.ek l).length = l.length := by rw [cvs_length, ek_w, Nat.mul_one]
  rcases hb with hb | ⟨b, hb, hA, hsz⟩
  · refine .inl ⟨hb, ?_⟩
    have : l = [] := List.eq_nil_of_length_eq_zero (by omega)
    rw [this]; rfl
  · rcases hpl with ⟨_, h0⟩ | ⟨b', blk, t, fr, p1, p2, p3, p4, p5, _⟩
    · rw [hb] at h0; cases h0
    · rw [hb] at p1; cases p1
      rw [← hew, ek_w] at hsz
      refine .inr ⟨b, blk, t, fr, by rw [hA]; simp, p2, by omega, by omega, p5, fun h0 => h0⟩

theorem toL_inv (q : SK) (l : List q.ek.den) : ∃ d : List q.den, q.toL d = l := by
  cases q <;> exact ⟨l, rfl⟩

theorem wfS_toL {q : SK} {d : List q.den} (h : ∀ x ∈ q.toL d, wfE q.ek x) : ∀ x ∈ d, wfS q x := by
  cases q <;> exact h

theorem sc_ek {e : TypeId} {q : SK} (h : scS P e = some q) : scK P e = some q.ek := by
  unfold scS at h
  unfold scK
  split at h
  · rename_i k ht; cases h; simp only [ht]
  · rename_i ht; cases h; simp only [ht]
  · rename_i ht; cases h; simp only [ht]
  · cases h

theorem slFs_open {m : GM} {g : TypeId → Option (List SL)} {fuel : Nat} (ih : ∀ t sl cs (x : DataW H × List MemPlace), g t = some sl → DataW.trod enc P w base spare held fuel t cs = some x → Opn m sl cs x.2) :
    ∀ (fs : List Field) (off : Nat) (sl : List SL) (n : Nat) (cs : List Value) (xs : List (DataW H × List MemPlace)), slFs P g off fs = some (sl, n) → cs.length = n → xs.length = fs.length →
      (∀ (i : Nat) f, fs[i]? = some f → DataW.trod enc P w base spare held fuel f.type ((cs.drop f.offset).take (P.cellsOf f.type)) = xs[i]?) → Opn m sl (cs.drop off) (xs.flatMap (·.2))
  | [], off, sl, n, cs, xs, hs, hn, hx, _ => by
    simp only [slFs, Option.some.injEq, Prod.mk.injEq] at hs
    obtain ⟨rfl, rfl⟩ := hs
    have := List.eq_nil_of_length_eq_zero hx
    subst this
    exact ⟨(), by simp [encL, OCells, hn], trivial⟩
  | f :: fs, off, sl, n, cs, xs, hs, hn, hx, h => by
    simp only [slFs] at hs
    split at hs
    · rename_i hoff
      split at hs
      · rename_i a b n' ha hb
        simp only [Option.some.injEq, Prod.mk.injEq] at hs
        obtain ⟨rfl, rfl⟩ := hs
        cases xs with
        | nil => simp at hx
        | cons x xs =>
          have h0 := h 0 f rfl
          rw [hoff] at h0
          obtain ⟨d1, o1, w1⟩ := ih _ _ _ _ ha h0
          obtain ⟨d2, o2, w2⟩ := slFs_open ih fs _ _ _ cs xs hb hn (by simpa using hx) fun i f' hf => by simpa using h (i + 1) f' (by simpa using hf)
          refine ⟨appD _ _ d1 d2, ?_, wfL_app _ _ _ _ w1 w2⟩
          rw [encL_app]
          refine ocells_append.2 ⟨_, _, ?_, o1, o2⟩
          rw [← List.drop_drop, List.take_append_drop]
      · cases hs
    · cases hs

theorem slOf_open {m : GM} (hfz : ∀ a cap cs, FzW (Ctx.of w fun _ => False) a cap cs → FZ.ok a cap cs) : ∀ (f : Nat) (t : TypeId) (sl : List SL) (fuel : Nat) (cs : List Value) (x : DataW H × List MemPlace), slOf P f t = some sl →
    DataW.trod enc P w 0 (fun _ => true) held fuel t cs = some x → Opn m sl cs x.2
  | 0, t, sl, fuel, cs, x, hs, h => by simp [slOf] at hs
  | f + 1, t, sl, fuel, cs, x, hs, h => by
    simp only [slOf] at hs
    split at hs
    · rename_i k ht
      cases hs
      obtain ⟨n, rfl, rfl, hw⟩ := DataW.trod_int ht h
      exact ⟨(n, ()), ⟨[_], [], rfl, ⟨_, rfl, rfl⟩, rfl⟩, ⟨hw, trivial⟩⟩
    · rename_i ht
      cases hs
      obtain ⟨b, rfl, rfl⟩ := DataW.trod_bool ht h
      exact ⟨(b, ()), ⟨[_], [], rfl, ⟨_, rfl, rfl⟩, rfl⟩, ⟨trivial, trivial⟩⟩
    · rename_i ht
      cases hs
      obtain ⟨s, rfl, rfl, hw⟩ := DataW.trod_string ht h
      exact ⟨(s, ()), ⟨[_], [], rfl, ⟨_, rfl, rfl⟩, rfl⟩, ⟨hw, trivial⟩⟩
    · rename_i n e ht
      split at hs
      · rename_i k hk
        split at hs
        · rename_i h1
          cases hs
          obtain ⟨xs, mm, rfl, rfl, hc, hl, hall⟩ := DataW.trod_array ht h
          have hcn : cs.length = n := hc.trans h1.2
          obtain ⟨l, q1, q2, q3, q4⟩ := sc_list hk n cs xs hcn hl fun i hi => by
            have := hall i hi
            rw [h1.1, Nat.mul_one] at this
            exact this
          exact ⟨(l, ()), ⟨cs, [], by simp, ⟨.inr q2, q1⟩, rfl⟩, ⟨⟨q2, q3⟩, trivial⟩⟩
        · cases hs
      · cases hs
    · rename_i fs ht
      split at hs
      · rename_i l n hl
        split at hs
        · rename_i hn
          cases hs
          obtain ⟨xs, mm, rfl, rfl, hc, hx, hall⟩ := DataW.trod_struct ht h
          have := slFs_open (m := m) (fun t sl cs x hs h => slOf_open hfz f t sl mm cs x hs h) fs.toList 0 _ _ cs xs hl (hc.trans hn.symm) (by simpa using hx) fun i f' hf => hall i f' (by simpa using hf)
          simpa using this
        · cases hs
      · cases hs
    · rename_i e ht
      split at hs
      · rename_i q hq
        split at hs
        · rename_i h1
          cases hs
          have hv : ∃ a0 n0 c0, cs = [.slice a0 n0 c0] := by
            rcases DataW.trod_slice ht h with ⟨h2, _⟩ | ⟨a, len, cap, elems, rest, n, _, h2, _⟩
            · exact ⟨_, _, _, h2⟩
            · exact ⟨_, _, _, h2⟩
          obtain ⟨a0, n0, c0, rfl⟩ := hv
          obtain ⟨l, g, hsh⟩ := slice_core (k := q.ek) ht (h1.trans (ek_w q).symm) (fun n cs x hx => let ⟨z, z1, z2, _⟩ := sc_open (sc_ek hq) hx; ⟨z, z1, z2⟩) h
          obtain ⟨h3, h4⟩ := shown_fz hsh
          obtain ⟨dd, rfl⟩ := toL_inv q l
          rw [toL_cvs] at h4
          rw [toL_length] at h3
          refine ⟨(⟨a0, c0, dd, .inr (hfz _ _ _ h4)⟩, ()), ⟨[_], [], rfl, ⟨_, rfl, ?_⟩, rfl⟩, ⟨⟨?_, wfS_toL hsh.wf⟩, trivial⟩⟩
          · rw [h3]; rfl
          · have := hsh.len; rw [toL_length] at this; exact this
        · cases hs
      · cases hs
    · cases hs

/-- One argument without memory of its own, of several cells. -/
theorem arg_agg (hfz : ∀ a cap cs, FzW (Ctx.of w fun _ => False) a cap cs → FZ.ok a cap cs) {m : GM} {r : Reach} {b0 : Nat} {t : TypeId} {v : Value} {d : DataW H} {ps : List MemPlace} {sl : List SL} (hs : slOf P 8 t = some sl) (hag : isAggT P t = true) (hv : Value.okWide P w r b0 t v)
    (h : DataW.Trod enc P w 0 (fun _ => true) held t v d ps) : ∃ y : denL sl, TVRel m (.agg (encL sl y)) v ∧ wfL sl y := by
  obtain ⟨fuel, hf⟩ := h
  obtain ⟨y, h1, h2⟩ := slOf_open (m := m) hfz _ _ _ _ _ _ hs hf
  have : ∃ cs, v = .agg cs := by
    unfold isAggT at hag
    unfold Value.okWide at hv
    split at hag
    · rename_i fs ht
      rw [ht] at hv
      obtain ⟨cs, h, _⟩ := hv
      exact ⟨cs, h⟩
    · rename_i n e ht
      rw [ht] at hv
      obtain ⟨cs, h, _⟩ := hv
      exact ⟨cs, h⟩
    · cases hag
  obtain ⟨cs, rfl⟩ := this
  exact ⟨y, ⟨cs, rfl, h1⟩, h2⟩

theorem arg_int {r : Reach} {b0 : Nat} {t : TypeId} {k : IntKind} {v : Value} {d : DataW H} {ps : List MemPlace} (ht : P.underlying t = some (.int k)) (hv : Value.okWide P w r b0 t v)
    (h : DataW.Trod enc P w base spare held t v d ps) : ∃ n, v = .int k n ∧ (Lit.int k n).wf = true ∧ ps = [] := by
  obtain ⟨n, rfl⟩ := Go.WideShapes.okWide_int ht hv
  obtain ⟨fuel, hf⟩ := h
  obtain ⟨n', h1, h2, h3⟩ := DataW.trod_int ht hf
  simp [Value.cells] at h1
  subst h1
  exact ⟨n, rfl, h3, congrArg (·.2) h2⟩

theorem arg_bool {r : Reach} {b0 : Nat} {t : TypeId} {v : Value} {d : DataW H} {ps : List MemPlace} (ht : P.underlying t = some .bool) (hv : Value.okWide P w r b0 t v)
    (h : DataW.Trod enc P w base spare held t v d ps) : ∃ b, v = .bool b ∧ ps = [] := by
  obtain ⟨b, rfl⟩ := Go.WideShapes.okWide_bool ht hv
  obtain ⟨fuel, hf⟩ := h
  obtain ⟨b', h1, h2⟩ := DataW.trod_bool ht hf
  exact ⟨b, rfl, congrArg (·.2) h2⟩

theorem arg_str {r : Reach} {b0 : Nat} {t : TypeId} {v : Value} {d : DataW H} {ps : List MemPlace} (ht : P.underlying t = some .string) (hv : Value.okWide P w r b0 t v)
    (h : DataW.Trod enc P w base spare held t v d ps) : ∃ s, v = .string s ∧ s.size ≤ maxLen ∧ ps = [] := by
  obtain ⟨s, rfl⟩ := Go.WideShapes.okWide_string ht hv
  obtain ⟨fuel, hf⟩ := h
  obtain ⟨s', h1, h2, h3⟩ := DataW.trod_string ht hf
  simp [Value.cells] at h1
  subst h1
  exact ⟨s, rfl, h3, congrArg (·.2) h2⟩

theorem trodAll_below (hl : laidOutB P = true) {W W' : World} (hb : Below W.heap.size W W') : ∀ {ts : List TypeId} {vs : List Value} {ds : List (DataW H)} {ps : List MemPlace},
    (∀ t ∈ ts, P.readableRec t = true ∧ t < P.types.size) → DataW.TrodAll enc P W 0 (fun _ => true) true ts vs ds ps → (∀ x ∈ ps, x.block < W.heap.size) →
    DataW.TrodAll enc P W' 0 (fun b => decide (b < W.heap.size)) true ts vs ds ps
  | [], [], [], ps, _, h, _ => h
  | t :: ts, v :: vs, d :: ds, ps, hr, ⟨p, q, h1, h2, h3⟩, hlt => by
    subst h3
    exact ⟨p, q, Go.RowKit.Below.trod hl (hr t (by simp)).1 (hr t (by simp)).2 h1 hb (fun x hx => hlt x (by simp [hx])), trodAll_below hl hb (fun t ht => hr t (by simp [ht])) h2 (fun x hx => hlt x (by simp [hx])), rfl⟩
  | [], _ :: _, _, _, _, h, _ => h.elim
  | [], [], _ :: _, _, _, h, _ => h.elim
  | _ :: _, [], _, _, _, h, _ => h.elim
  | _ :: _, _ :: _, [], _, _, h, _ => h.elim

theorem Ext.below {w w' : World} (h : Ext w w') : Below w.heap.size w w' := ⟨h.str.1, h.str.2.1, h.str.2.2, h.size, fun k hk => h.block k hk⟩

/-- No objects. -/
theorem inv_nil (hfz : ∀ a cap cs, FZ.ok a cap cs → FzW (Ctx.of w fun _ => False) a cap cs) : Inv (Ctx.of w fun _ => False) [] [] w :=
  ⟨rfl, fun id ob g h => by simp [hget] at h, fun id ob g b h => by simp [hget] at h, fun i j oi oj gi gj b c _ h => by simp [hget] at h, Str.refl w, Nat.le_refl _, fun _ _ _ => rfl, hfz, fun x hx => by cases hx⟩

end
end Go.Proofs.YtlgopekjjkdkiaaDoor.Ev
end

section
/- A row's arguments, opened as typed values: slices, which are lent for reading. -/
namespace Go.Proofs.YtlgopekjjkdkiaaDoor.Ev
open Go Go.RowKit
set_option linter.unusedVariables false
set_option linter.unusedSimpArgs false
set_option linter.unusedSectionVars false
variable [FZ]

section
variable {P : Program} {H : Type} {enc : TypeId × Value → H} {w : World} {held : Bool}

theorem open_slice (hfz : ∀ a cap cs, FzW (Ctx.of w fun _ => False) a cap cs → FZ.ok a cap cs) {e t : TypeId} {sl : List SL} {k : EK} (conv : denL sl → k.den) (ht : P.underlying t = some (.slice e)) (hs : slOf P 8 e = some sl) (hc : P.cellsOf e = k.w) (hconv : ∀ y, k.of1 (encL sl y) = some (conv y))
    (hwf : ∀ y, wfL sl y → wfE k (conv y)) {r : Reach} {b0 : Nat} {v : Value} {d : DataW H} {ps : List MemPlace} (hv : Value.okWide P w r b0 t v) (h : DataW.Trod enc P w 0 (fun _ => true) held t v d ps) :
    ∃ (l : List k.den) (g : Gh), Shown w k l g v := by
  obtain ⟨a0, n0, c0, rfl⟩ := Go.WideShapes.okWide_slice ht hv
  obtain ⟨fuel, hf⟩ := h
  exact slice_core ht hc (fun n cs x hx => by
    obtain ⟨d', o1, o2⟩ := slOf_open (m := []) hfz 8 e sl n cs x hs hx
    exact ⟨conv d', of1_cells k (hconv d') o1, hwf d' o2⟩) hf

/-- Arguments that are lent. -/
theorem inv_shown {m : GM} {h : Heap} (hfz : ∀ a cap cs, FZ.ok a cap cs → FzW (Ctx.of w fun _ => False) a cap cs) (hl : m.length = h.length) (hq : ∀ (i : Nat) ob g, hget h i = some ob → m[i]? = some g → ob.ro = true ∧ ObRel m g w ob ∧ ∀ b, g.addr = some b → b.1 < w.heap.size) :
    Inv (Ctx.of w fun _ => False) m h w :=
  ⟨hl, fun id ob g h1 h2 => (hq id ob g h1 h2).2.1, fun id ob g b h1 h2 h3 => by rw [(hq id ob g h1 h2).1]; exact ⟨fun h => h, (hq id ob g h1 h2).2.2 b h3, trivial⟩,
   fun i j oi oj gi gj b c _ h1 h2 h3 _ h5 h6 => (by rw [(hq i oi gi h1 h5).1] at h3; cases h3), Str.refl w, Nat.le_refl _, fun _ _ _ => rfl, hfz, fun x hx => by cases hx⟩

theorem inv_cons {m : GM} {h : Heap} {k : EK} {l : List k.den} {g : Gh} {v : Value} (hi : Inv (Ctx.of w fun _ => False) m h w) (hro : ∀ (i : Nat) ob, hget h i = some ob → ob.ro = true) (hs : Shown w k l g v) :
    Inv (Ctx.of w fun _ => False) (m ++ [g]) (h ++ [some ⟨true, [.seq k 0 l]⟩]) w ∧ (∀ (i : Nat) ob, hget (h ++ [some ⟨true, [.seq k 0 l]⟩]) i = some ob → ob.ro = true) ∧ LRel (m ++ [g]) (.full h.length) v := by
  have hro' : ∀ (i : Nat) ob, hget (h ++ [some ⟨true, [.seq k 0 l]⟩]) i = some ob → ob.ro = true := by
    intro i ob h1
    rcases hget_app h1 with ⟨_, h2⟩ | ⟨_, h2⟩
    · exact hro i ob h2
    · cases h2; rfl
  refine ⟨inv_shown hi.fz (by simp [hi.len]) fun i ob g' h1 h2 => ⟨hro' i ob h1, ?_⟩, hro', ?_⟩
  · rcases hget_app h1 with ⟨hlt, h3⟩ | ⟨rfl, h3⟩
    · have h4 := gm_app_old (by rw [hi.len]; exact hlt) h2
      obtain ⟨o1, cs, o2, o3⟩ := hi.obs i ob g' h3 h4
      exact ⟨⟨o1, cs, o2.mono (pre_append _ _), o3⟩, fun b hb => hi.block_lt h3 h4 hb⟩
    · cases h3
      have : (m ++ [g])[h.length]? = some g := by rw [← hi.len]; exact gm_app_new
      rw [this] at h2; cases h2
      exact ⟨hs.obj _, hs.blk⟩
  · exact hs.rel _ _ (by rw [← hi.len]; exact gm_app_new)

end
end Go.Proofs.YtlgopekjjkdkiaaDoor.Ev
end

section
/- strings.Repeat: the contract of the kit, at this program. -/
namespace Go.Proofs.YtlgopekjjkdkiaaDoor.X
open Go Go.Proofs.YtlgopekjjkdkiaaDoor.Ev Go.Proofs Go.Shelf Go.RowKit
set_option linter.unusedVariables false
def repRen : Go.Shelf.Ren := ⟨fun x => match x with | 105 => 52 | 212 => 42 | 99 => 68 | 165 => 69 | 166 => 70 | 170 => 71 | 169 => 72 | 263 => 61 | 264 => 62 | 206 => 77 | 240 => 78 | 241 => 79 | 276 => 82 | 277 => 83 | n => n, fun x => match x with | 9 => 9 | 3 => 3 | 4 => 4 | 20 => 20 | 0 => 0 | 46 => 82 | 109 => 83 | 5 => 5 | 72 => 116 | 76 => 119 | 51 => 96 | 146 => 106 | 53 => 25 | 148 => 108 | 70 => 114 | 37 => 93 | 75 => 118 | 127 => 128 | 164 => 132 | 80 => 54 | n => n, fun x => match x with  | n => n⟩
theorem repLays : Lays.n105 Tryd.prog repRen where
  mixed := by kernel_rfl
  f99 := Tryd.func68.trans (congrArg some (by kernel_rfl))
  f105 := Tryd.func52.trans (congrArg some (by kernel_rfl))
  f165 := Tryd.func69.trans (congrArg some (by kernel_rfl))
  f166 := Tryd.func70.trans (congrArg some (by kernel_rfl))
  f169 := Tryd.func72.trans (congrArg some (by kernel_rfl))
  f170 := Tryd.func71.trans (congrArg some (by kernel_rfl))
  f206 := Tryd.func77.trans (congrArg some (by kernel_rfl))
  f212 := Tryd.func42.trans (congrArg some (by kernel_rfl))
  f240 := Tryd.func78.trans (congrArg some (by kernel_rfl))
  f241 := Tryd.func79.trans (congrArg some (by kernel_rfl))
  f263 := Tryd.func61.trans (congrArg some (by kernel_rfl))
  f264 := Tryd.func62.trans (congrArg some (by kernel_rfl))
  f276 := Tryd.func82.trans (congrArg some (by kernel_rfl))
  f277 := Tryd.func83.trans (congrArg some (by kernel_rfl))
  t0 := Tryd.underlying0
  a0 := Tryd.isAgg0
  z0 := Tryd.sizeOf0
  v0 := Tryd.zeroValue0
  t3 := Tryd.underlying3
  a3 := Tryd.isAgg3
  z3 := Tryd.sizeOf3
  v3 := Tryd.zeroValue3
  t4 := Tryd.underlying4
  a4 := Tryd.isAgg4
  z4 := Tryd.sizeOf4
  v4 := Tryd.zeroValue4
  t5 := Tryd.underlying5
  a5 := Tryd.isAgg5
  z5 := Tryd.sizeOf5
  v5 := Tryd.zeroValue5
  t9 := Tryd.underlying9
  a9 := Tryd.isAgg9
  z9 := Tryd.sizeOf9
  v9 := Tryd.zeroValue9
  t20 := Tryd.underlying20
  a20 := Tryd.isAgg20
  z20 := Tryd.sizeOf20
  v20 := Tryd.zeroValue20
  t37 := Tryd.underlying93
  a37 := Tryd.isAgg93
  z37 := Tryd.sizeOf93
  v37 := Tryd.zeroValue93
  t46 := Tryd.underlying82
  a46 := Tryd.isAgg82
  z46 := Tryd.sizeOf82
  v46 := Tryd.zeroValue82
  t51 := Tryd.underlying96
  a51 := Tryd.isAgg96
  z51 := Tryd.sizeOf96
  v51 := Tryd.zeroValue96
  t53 := Tryd.underlying25
  a53 := Tryd.isAgg25
  z53 := Tryd.sizeOf25
  v53 := Tryd.zeroValue25
  t70 := Tryd.underlying114
  a70 := Tryd.isAgg114
  z70 := Tryd.sizeOf114
  v70 := Tryd.zeroValue114
  t72 := Tryd.underlying116
  a72 := Tryd.isAgg116
  z72 := Tryd.sizeOf116
  v72 := Tryd.zeroValue116
  t75 := Tryd.underlying118
  a75 := Tryd.isAgg118
  z75 := Tryd.sizeOf118
  v75 := Tryd.zeroValue118
  t76 := Tryd.underlying119
  a76 := Tryd.isAgg119
  z76 := Tryd.sizeOf119
  v76 := Tryd.zeroValue119
  t109 := Tryd.underlying83
  a109 := Tryd.isAgg83
  z109 := Tryd.sizeOf83
  v109 := Tryd.zeroValue83
  t127 := Tryd.underlying128
  a127 := Tryd.isAgg128
  z127 := Tryd.sizeOf128
  v127 := Tryd.zeroValue128
  t146 := Tryd.underlying106
  a146 := Tryd.isAgg106
  z146 := Tryd.sizeOf106
  v146 := Tryd.zeroValue106
  t148 := Tryd.underlying108
  a148 := Tryd.isAgg108
  z148 := Tryd.sizeOf108
  v148 := Tryd.zeroValue108
  t164 := Tryd.underlying132
  a164 := Tryd.isAgg132
  z164 := Tryd.sizeOf132
  v164 := Tryd.zeroValue132
theorem repExtra : Builder.Extra Tryd.prog repRen where
  sizeBuilder := by kernel_rfl
  liesBuilder := by kernel_rfl
  t5 := repLays.t5
  a5 := repLays.a5
  z5 := repLays.z5
  v5 := repLays.v5
  infoByte := by kernel_rfl
  cellsByte := by kernel_rfl
  sizeByte := by kernel_rfl
  neB5 := by decide
end Go.Proofs.YtlgopekjjkdkiaaDoor.X
end

section
/- strings.Repeat: its contract, as a typed function. -/
namespace Go.Proofs.YtlgopekjjkdkiaaDoor.X
open Go Go.Proofs.YtlgopekjjkdkiaaDoor.Ev Go.Proofs
set_option linter.unusedVariables false
set_option linter.unusedSimpArgs false
set_option linter.unusedSectionVars false
variable [FZ]

/-- So many copies of a string, one behind another. -/
noncomputable def rep (s : ByteArray) (n : Nat) : ByteArray := ⟨(Lib.repeatL s.data.toList n).toArray⟩
noncomputable def f52_1 {β : Type} (F : Nat) (a1 : ByteArray) (a2 : Int) (K0 : ByteArray → Option β) : Option β :=
  cond (decide (0 ≤ a2 ∧ a2 ≤ 9223372036854775807 ∧ a1.size * a2.toNat ≤ 140737488355328)) (K0 (rep a1 a2.toNat)) none
def sh52_1 : Sh := ⟨[.lf (.str), .lf (.int .i64)], []⟩
noncomputable def S52_1 (F : Nat) (o : Summ) : Summ := mkS sh52_1 (fun d K => f52_1 F d.1.1 d.1.2.1 (fun (y0 : ByteArray) => K [.lf (.str y0)] [])) o
theorem enter52 : ∀ args w, (callFunc 52 args).run Tryd.prog w = .ok (.enter 52 args) w := enter_of (fn := Tryd.f52) (by kernel_rfl) (by kernel_rfl) (by kernel_rfl)
theorem repNum : repRen.f 105 = 52 := by kernel_rfl

theorem repB {s : ByteArray} {c : Int} (h : 0 ≤ c ∧ c ≤ 9223372036854775807 ∧ s.size * c.toNat ≤ 140737488355328) {K : KF} {r : Res} (he : K [.lf (.str (rep s c.toNat))] [] = some r) :
    Contract Tryd.prog 52 [.lf (.str s), .lf (.int .i64 c)] [] K r := by
  intro G m w cvs hw hgd hgh hi hx
  obtain ⟨v1, v2, rfl, h1, h2⟩ : ∃ v1 v2, cvs = [v1, v2] ∧ v1 = .string s ∧ v2 = .int .i64 c := by
    match cvs, hx with
    | [v1, v2], ⟨h1, h2, _⟩ => exact ⟨v1, v2, rfl, h1, h2⟩
  subst h1 h2
  have := Any.strings_Repeat repLays repExtra s c.toNat w (by omega) h.2.2
  rw [repNum, show ((c.toNat : Nat) : Int) = c by omega] at this
  refine this.mono fun e w' ⟨h1, h2⟩ => ?_
  have hext : Ext w w' := ⟨⟨h2.os, h2.tape, h2.output⟩, h2.size, h2.block⟩
  exact ⟨_, _, he, _, [], h1, rfl, by rw [List.append_nil]; exact hi.ext hext⟩

theorem S52_1_ok (F : Nat) (o : Summ) (ho : SoundFn Tryd.prog 52 o) : SoundFn Tryd.prog 52 (S52_1 F o) := by
  refine ⟨ho.enter, fun vs h K r he => ?_⟩
  unfold S52_1 mkS at he
  split at he
  rotate_left
  · exact ho.ok vs h K r he
  rename_i dv dh ha hb'
  have e1 := decT_enc _ _ _ ha
  have e2 := decH_enc _ _ _ hb'
  obtain ⟨s, c, _⟩ := dv
  have e1 : vs = [.lf (.str s), .lf (.int .i64 c)] := e1
  have e2 : h = [] := e2
  subst e1
  subst e2
  have he : f52_1 F s c (fun (y0 : ByteArray) => K [.lf (.str y0)] []) = some r := he
  unfold f52_1 at he
  obtain ⟨h1, he⟩ := dec_of he
  exact repB h1 he

end Go.Proofs.YtlgopekjjkdkiaaDoor.X
end

section
namespace Go.Proofs.YtlgopekjjkdkiaaDoor.X
open Go Go.Proofs.YtlgopekjjkdkiaaDoor.Ev Go.Proofs
set_option linter.unusedVariables false
set_option linter.unusedSectionVars false
/-! rec.Make -/
noncomputable def f32_1 {β : Type} (F : Nat) (a1 : Int) (a2 : ByteArray) (K0 : ByteArray → Int → Option β) : Option β := cond (decide (a1 < 1)) (K0 ByteArray.empty 22) (cond (decide (a1 > 8)) (K0 ByteArray.empty 22) (cond (decide ((a2.size : Int) > 58)) (K0 ByteArray.empty 8) (cond (decide ((ofInts [IntKind.u8.wrap a1, IntKind.u8.wrap (a2.size : Int)]).size + a2.size ≤ 4611686018427387904)) (f52_1 F (⟨#[0]⟩ : ByteArray) (IntKind.i64.wrap (60 - (((ofInts [IntKind.u8.wrap a1, IntKind.u8.wrap (a2.size : Int)]) ++ a2).size : Int))) (fun x1 => cond (decide (((ofInts [IntKind.u8.wrap a1, IntKind.u8.wrap (a2.size : Int)]) ++ a2).size + x1.size ≤ 4611686018427387904)) (f53_1 F (((ofInts [IntKind.u8.wrap a1, IntKind.u8.wrap (a2.size : Int)]) ++ a2) ++ x1) (fun x2 => cond (decide ((((ofInts [IntKind.u8.wrap a1, IntKind.u8.wrap (a2.size : Int)]) ++ a2) ++ x1).size + x2.size ≤ 4611686018427387904)) (K0 ((((ofInts [IntKind.u8.wrap a1, IntKind.u8.wrap (a2.size : Int)]) ++ a2) ++ x1) ++ x2) 0) none) ) none) ) none)))
variable [FZ]
def sh32_1 : Sh := ⟨[.lf (.int .i64), .lf (.str)], []⟩
abbrev Y32_1 := Int → ByteArray → (ByteArray → Int → Option Res) → Option Res
noncomputable def A32_1 (g : Y32_1) (d : sh32_1.den) (K : KF) : Option Res := g d.1.1 d.1.2.1 (fun (y0 : ByteArray) (y1 : Int) => K [.lf (.str y0), .lf (.int .i64 y1)] [])
noncomputable def S32_1 (F : Nat) (o : Summ) : Summ := mkS sh32_1 (fun d K => A32_1 (f32_1 F) d K) o
noncomputable def code32 : Code := bodyOf Tryd.f32
theorem scopes32 : scopesOf code32 = [] := by kernel_rfl
theorem ranges32 : rangesOf code32 = [] := by kernel_rfl
theorem loops32 : loopsOf code32 = [] := by kernel_rfl
theorem enter32 : ∀ args w, (callFunc 32 args).run Tryd.prog w = .ok (.enter 32 args) w := enter_of (fn := Tryd.f32) (by kernel_rfl) (by kernel_rfl) (by kernel_rfl)
noncomputable def T32_1 (F : Nat) : FuncId → Option Summ := tab [(52, (S52_1 F noS)), (53, (S53_1 F noS))]
noncomputable def TB32_1 (c52_1 : ByteArray → Int → (ByteArray → Option Res) → Option Res) (c53_1 : Y53_1) : FuncId → Option Summ := tab [(52, (mkS sh52_1 (fun d K => c52_1 d.1.1 d.1.2.1 (fun (y0 : ByteArray) => K [.lf (.str y0)] [])) noS)), (53, (mkS sh53_1 (fun d K => A53_1 c53_1 d K) noS))]
noncomputable def LT32_1 (F : Nat) : Nat → Option LoopS := ltab []
theorem E32_1g (F : Nat) (c52_1 : ByteArray → Int → (ByteArray → Option Res) → Option Res) (c53_1 : Y53_1)   (d : sh32_1.den) (K : KF) : evBody Tryd.prog (TB32_1 c52_1 c53_1) (xw []) 37 0 (ltab []) [] code32 Tryd.f32.results.toList (encT sh32_1.vs d.1) (encH sh32_1.h d.2) K = A32_1 (fun (a1 : Int) (a2 : ByteArray) (K0 : (ByteArray → Int → Option Res)) => cond (decide (a1 < 1)) (K0 ByteArray.empty 22) (cond (decide (a1 > 8)) (K0 ByteArray.empty 22) (cond (decide ((a2.size : Int) > 58)) (K0 ByteArray.empty 8) (cond (decide ((ofInts [IntKind.u8.wrap a1, IntKind.u8.wrap (a2.size : Int)]).size + a2.size ≤ 4611686018427387904)) (c52_1 (⟨#[0]⟩ : ByteArray) (IntKind.i64.wrap (60 - (((ofInts [IntKind.u8.wrap a1, IntKind.u8.wrap (a2.size : Int)]) ++ a2).size : Int))) (fun x1 => cond (decide (((ofInts [IntKind.u8.wrap a1, IntKind.u8.wrap (a2.size : Int)]) ++ a2).size + x1.size ≤ 4611686018427387904)) (c53_1 (((ofInts [IntKind.u8.wrap a1, IntKind.u8.wrap (a2.size : Int)]) ++ a2) ++ x1) (fun x2 => cond (decide ((((ofInts [IntKind.u8.wrap a1, IntKind.u8.wrap (a2.size : Int)]) ++ a2) ++ x1).size + x2.size ≤ 4611686018427387904)) (K0 ((((ofInts [IntKind.u8.wrap a1, IntKind.u8.wrap (a2.size : Int)]) ++ a2) ++ x1) ++ x2) 0) none) ) none) ) none)))) d K := by kernel_rfl
theorem E32_1 (F : Nat) (d : sh32_1.den) (K : KF) : evBody Tryd.prog (T32_1 F) (xw []) 37 0 (LT32_1 F) [] code32 Tryd.f32.results.toList (encT sh32_1.vs d.1) (encH sh32_1.h d.2) K = A32_1 (f32_1 F) d K := Eq.mp (by kernel_rfl) (E32_1g F (f52_1 F) (f53_1 F)   d K)
theorem S32_1_ok (F : Nat) (o : Summ) (ho : SoundFn Tryd.prog 32 o) : SoundFn Tryd.prog 32 (S32_1 F o) :=
  soundFn_of (fn := Tryd.f32) (c := code32) rfl rfl (by kernel_rfl) (tab_cons (S52_1_ok F _ (noS_sound enter52)) (tab_cons (S53_1_ok F _ (noS_sound enter53)) tab_nil)) (by kernel_rfl) (by kernel_rfl) ho (by rw [loops32]; exact loopsOK_nil) (by rw [scopes32]; exact scopesOK_nil) (by rw [ranges32]; exact rangesOK_nil) (E32_1 F)
end Go.Proofs.YtlgopekjjkdkiaaDoor.X
end

section
namespace Go.Proofs.YtlgopekjjkdkiaaDoor.X
open Go Go.Proofs.YtlgopekjjkdkiaaDoor.Ev Go.Proofs
set_option linter.unusedVariables false
set_option linter.unusedSectionVars false
/-! geom.Levels -/
noncomputable def f67_1_l5 {β : Type} (F : Nat) (v3 : Int) (v4 : Int) (v5 : Int) (v6 : Int) (K0 : List Int → Option β) : Nat → Int → List Int → Option β
  | 0, _, _ => none
  | k + 1, v2, v7 => cond (decide (v2 > 1)) (cond (decide (v4 = 0)) none (cond (decide ((v7.length + 1) * 8 ≤ 70368744177664)) (f67_1_l5 F v3 v4 v5 v6 K0 k (IntKind.i64.wrap ((IntKind.i64.wrap ((IntKind.i64.wrap (v2 + v4)) - 1)).tdiv v4)) (v7 ++ [IntKind.i64.wrap ((IntKind.i64.wrap ((IntKind.i64.wrap (v2 + v4)) - 1)).tdiv v4)])) none)) (K0 v7)
noncomputable def f67_1 {β : Type} (F : Nat) (a1 : Int) (a2 : Int) (a3 : Int) (a4 : Int) (K0 : List Int → Option β) : Option β := f27_1 F a1 a2 a3 a4 (fun x1 => cond (!x1) (K0 []) (f67_1_l5 F a1 a2 a3 a4 (fun x8 => K0 x8) F a1 [a1])) 
variable [FZ]
def sh67_1 : Sh := ⟨[.agg [.int .i64, .int .i64, .int .i64, .int .i64]], []⟩
abbrev Y67_1 := Int → Int → Int → Int → (List Int → Option Res) → Option Res
noncomputable def A67_1 (g : Y67_1) (d : sh67_1.den) (K : KF) : Option Res := g d.1.1.1 d.1.1.2.1 d.1.1.2.2.1 d.1.1.2.2.2.1 (fun (y0 : List Int) => K [.lf (.full 0)] [some ⟨false, [.seq (.int .i64) 0 y0]⟩])
noncomputable def S67_1 (F : Nat) (o : Summ) : Summ := mkS sh67_1 (fun d K => A67_1 (f67_1 F) d K) o
noncomputable def code67 : Code := bodyOf Tryd.f67
noncomputable def b67_0 : Code := cB (cB (cR (cL (cR (cR (cR (code67)))))))
theorem scopes67 : scopesOf code67 = [] := by kernel_rfl
theorem ranges67 : rangesOf code67 = [] := by kernel_rfl
theorem loops67 : loopsOf code67 = [b67_0] := by kernel_rfl
theorem enter67 : ∀ args w, (callFunc 67 args).run Tryd.prog w = .ok (.enter 67 args) w := enter_of (fn := Tryd.f67) (by kernel_rfl) (by kernel_rfl) (by kernel_rfl)
noncomputable def T67_1 (F : Nat) : FuncId → Option Summ := tab [(27, (S27_1 F noS))]
noncomputable def TB67_1 (c27_1 : Y27_1) : FuncId → Option Summ := tab [(27, (mkS sh27_1 (fun d K => A27_1 c27_1 d K) noS))]
def sh67_1_l5 : Sh := ⟨[.lf (.ptr 0 0), .lf (.full 1), .lf (.int .i64)], [some ⟨some false, [.int .i64, .int .i64, .int .i64, .int .i64]⟩, some ⟨some false, [.seq (.int .i64) 0]⟩]⟩
abbrev Y67_1_l5 := Int → Int → Int → Int → (List Int → Option Res) → Nat → Int → List Int → Option Res
noncomputable def A67_1_l5 (g : Y67_1_l5) (k : Nat) (d : sh67_1_l5.den) (K : KL) : Option Res := g d.2.1.2.1 d.2.1.2.2.1 d.2.1.2.2.2.1 d.2.1.2.2.2.2.1 (fun (y4 : List Int) => K (.exit 0) [.tv (.lf (.full 1))] [some ⟨false, [.int .i64 d.2.1.2.1, .int .i64 d.2.1.2.2.1, .int .i64 d.2.1.2.2.2.1, .int .i64 d.2.1.2.2.2.2.1]⟩, some ⟨false, [.seq (.int .i64) 0 y4]⟩]) k d.1.2.2.1 d.2.2.1.2.1
noncomputable def G67_1_5 (F k : Nat) : LoopS := mkG sh67_1_l5 [1, 3, 4] (outT [(.exit 0, [3])]) (fun d K => A67_1_l5 (f67_1_l5 F) k d K) []
noncomputable def LT67_1 (F : Nat) : Nat → Option LoopS := ltab [(5, G67_1_5 F F)]
theorem L67_1_l5g (F k : Nat) (c27_1 : Y27_1)  (l5 : Y67_1_l5) (X5 : LoopS) (d : sh67_1_l5.den) (K : KL) : A67_1_l5 ((fun (v3 : Int) (v4 : Int) (v5 : Int) (v6 : Int) (K0 : (List Int → Option Res)) (k : Nat) (v2 : Int) (v7 : List Int) => cond (decide (v2 > 1)) (cond (decide (v4 = 0)) none (cond (decide ((v7.length + 1) * 8 ≤ 70368744177664)) (l5 v3 v4 v5 v6 K0 k (IntKind.i64.wrap ((IntKind.i64.wrap ((IntKind.i64.wrap (v2 + v4)) - 1)).tdiv v4)) (v7 ++ [IntKind.i64.wrap ((IntKind.i64.wrap ((IntKind.i64.wrap (v2 + v4)) - 1)).tdiv v4)])) none)) (K0 v7))) k d K = roundOf Tryd.prog (TB67_1 c27_1) (xw []) 28 0 (ltab [(5, X5)]) (mkG sh67_1_l5 [1, 3, 4] (outT [(.exit 0, [3])]) (fun d K => A67_1_l5 l5 k d K) []) b67_0 (encT sh67_1_l5.vs d.1) (encH sh67_1_l5.h d.2) K := by kernel_rfl
theorem L67_1_5 (F : Nat) : LoopOK Tryd.prog (T67_1 F) (xw []) 28 0 (LT67_1 F) (G67_1_5 F F) b67_0 :=
  loopOK_of (s := sh67_1_l5) (live := [1, 3, 4]) (out := (outT [(.exit 0, [3])])) (mv := []) (fun k d K => A67_1_l5 (f67_1_l5 F) k d K) F (fun d K => by kernel_rfl)  (fun k d K => Eq.mp (by kernel_rfl) (L67_1_l5g F k (f27_1 F)  (f67_1_l5 F) (G67_1_5 F F) d K))
theorem E67_1g (F : Nat) (c27_1 : Y27_1) (l5 : Y67_1_l5)  (d : sh67_1.den) (K : KF) : evBody Tryd.prog (TB67_1 c27_1) (xw []) 28 0 (ltab [(5, mkG sh67_1_l5 [1, 3, 4] (outT [(.exit 0, [3])]) (fun d K => A67_1_l5 l5 F d K) [])]) [] code67 Tryd.f67.results.toList (encT sh67_1.vs d.1) (encH sh67_1.h d.2) K = A67_1 (fun (a1 : Int) (a2 : Int) (a3 : Int) (a4 : Int) (K0 : (List Int → Option Res)) => c27_1 a1 a2 a3 a4 (fun x1 => cond (!x1) (K0 []) (l5 a1 a2 a3 a4 (fun x8 => K0 x8) F a1 [a1])) ) d K := by kernel_rfl
theorem E67_1 (F : Nat) (d : sh67_1.den) (K : KF) : evBody Tryd.prog (T67_1 F) (xw []) 28 0 (LT67_1 F) [] code67 Tryd.f67.results.toList (encT sh67_1.vs d.1) (encH sh67_1.h d.2) K = A67_1 (f67_1 F) d K := Eq.mp (by kernel_rfl) (E67_1g F (f27_1 F) (f67_1_l5 F)  d K)
theorem S67_1_ok (F : Nat) (o : Summ) (ho : SoundFn Tryd.prog 67 o) : SoundFn Tryd.prog 67 (S67_1 F o) :=
  soundFn_of (fn := Tryd.f67) (c := code67) rfl rfl (by kernel_rfl) (tab_cons (S27_1_ok F _ (noS_sound enter27)) tab_nil) (by kernel_rfl) (by kernel_rfl) ho (by rw [loops67]; exact (loopsOK_cons (by kernel_rfl) (L67_1_5 F) loopsOK_nil)) (by rw [scopes67]; exact scopesOK_nil) (by rw [ranges67]; exact rangesOK_nil) (E67_1 F)
end Go.Proofs.YtlgopekjjkdkiaaDoor.X
end

section
namespace Go.Proofs.YtlgopekjjkdkiaaDoor.X
open Go Go.Proofs.YtlgopekjjkdkiaaDoor.Ev Go.Proofs
set_option linter.unusedVariables false
set_option linter.unusedSectionVars false
/-! geom.Nodes -/
noncomputable def f51_1_l3 {β : Type} (F : Nat) (v3 : Int) (v5 : List Int) (K0 : Int → Option β) : Nat → Int → Int → Option β
  | 0, _, _ => none
  | k + 1, v2, v4 => cond (decide (v4 < v3)) (cond (decide ((0 : Int) ≤ v4 ∧ v4 < ((v5.length : Nat) : Int))) (cond (decide (0 + v4.toNat < v5.length)) (f51_1_l3 F v3 v5 K0 k (IntKind.i64.wrap (v2 + (v5.getD (0 + v4.toNat) 0))) (IntKind.i64.wrap (v4 + 1))) none) none) (K0 v2)
noncomputable def f51_1 {β : Type} (F : Nat) (a1 : Int) (a2 : Int) (a3 : Int) (a4 : Int) (K0 : Int → Option β) : Option β := f67_1 F a1 a2 a3 a4 (fun x1 => f51_1_l3 F ((x1.length : Nat) : Int) x1 (fun x6 => K0 x6) F 0 0) 
variable [FZ]
def sh51_1 : Sh := ⟨[.agg [.int .i64, .int .i64, .int .i64, .int .i64]], []⟩
abbrev Y51_1 := Int → Int → Int → Int → (Int → Option Res) → Option Res
noncomputable def A51_1 (g : Y51_1) (d : sh51_1.den) (K : KF) : Option Res := g d.1.1.1 d.1.1.2.1 d.1.1.2.2.1 d.1.1.2.2.2.1 (fun (y0 : Int) => K [.lf (.int .i64 y0)] [])
noncomputable def S51_1 (F : Nat) (o : Summ) : Summ := mkS sh51_1 (fun d K => A51_1 (f51_1 F) d K) o
noncomputable def code51 : Code := bodyOf Tryd.f51
noncomputable def b51_0 : Code := cB (cB (cR (cL (cR (cR (code51))))))
theorem scopes51 : scopesOf code51 = [] := by kernel_rfl
theorem ranges51 : rangesOf code51 = [] := by kernel_rfl
theorem loops51 : loopsOf code51 = [b51_0] := by kernel_rfl
theorem enter51 : ∀ args w, (callFunc 51 args).run Tryd.prog w = .ok (.enter 51 args) w := enter_of (fn := Tryd.f51) (by kernel_rfl) (by kernel_rfl) (by kernel_rfl)
noncomputable def T51_1 (F : Nat) : FuncId → Option Summ := tab [(67, (S67_1 F noS))]
noncomputable def TB51_1 (c67_1 : Y67_1) : FuncId → Option Summ := tab [(67, (mkS sh67_1 (fun d K => A67_1 c67_1 d K) noS))]
def sh51_1_l3 : Sh := ⟨[.lf (.int .i64), .lf (.full 0), .lf (.int .i64), .lf (.int .i64)], [some ⟨some false, [.seq (.int .i64) 0]⟩]⟩
abbrev Y51_1_l3 := Int → List Int → (Int → Option Res) → Nat → Int → Int → Option Res
noncomputable def A51_1_l3 (g : Y51_1_l3) (k : Nat) (d : sh51_1_l3.den) (K : KL) : Option Res := g d.1.2.2.1 d.2.1.2.1 (fun (y0 : Int) => K (.exit 0) [.tv (.lf (.int .i64 y0))] [some ⟨false, [.seq (.int .i64) 0 d.2.1.2.1]⟩]) k d.1.1 d.1.2.2.2.1
noncomputable def G51_1_3 (F k : Nat) : LoopS := mkG sh51_1_l3 [3, 7, 8, 9] (outT [(.exit 0, [3])]) (fun d K => A51_1_l3 (f51_1_l3 F) k d K) []
noncomputable def LT51_1 (F : Nat) : Nat → Option LoopS := ltab [(3, G51_1_3 F F)]
theorem L51_1_l3g (F k : Nat) (c67_1 : Y67_1)  (l3 : Y51_1_l3) (X3 : LoopS) (d : sh51_1_l3.den) (K : KL) : A51_1_l3 ((fun (v3 : Int) (v5 : List Int) (K0 : (Int → Option Res)) (k : Nat) (v2 : Int) (v4 : Int) => cond (decide (v4 < v3)) (cond (decide ((0 : Int) ≤ v4 ∧ v4 < ((v5.length : Nat) : Int))) (cond (decide (0 + v4.toNat < v5.length)) (l3 v3 v5 K0 k (IntKind.i64.wrap (v2 + (v5.getD (0 + v4.toNat) 0))) (IntKind.i64.wrap (v4 + 1))) none) none) (K0 v2))) k d K = roundOf Tryd.prog (TB51_1 c67_1) (xw []) 18 0 (ltab [(3, X3)]) (mkG sh51_1_l3 [3, 7, 8, 9] (outT [(.exit 0, [3])]) (fun d K => A51_1_l3 l3 k d K) []) b51_0 (encT sh51_1_l3.vs d.1) (encH sh51_1_l3.h d.2) K := by kernel_rfl
theorem L51_1_3 (F : Nat) : LoopOK Tryd.prog (T51_1 F) (xw []) 18 0 (LT51_1 F) (G51_1_3 F F) b51_0 :=
  loopOK_of (s := sh51_1_l3) (live := [3, 7, 8, 9]) (out := (outT [(.exit 0, [3])])) (mv := []) (fun k d K => A51_1_l3 (f51_1_l3 F) k d K) F (fun d K => by kernel_rfl)  (fun k d K => Eq.mp (by kernel_rfl) (L51_1_l3g F k (f67_1 F)  (f51_1_l3 F) (G51_1_3 F F) d K))
theorem E51_1g (F : Nat) (c67_1 : Y67_1) (l3 : Y51_1_l3)  (d : sh51_1.den) (K : KF) : evBody Tryd.prog (TB51_1 c67_1) (xw []) 18 0 (ltab [(3, mkG sh51_1_l3 [3, 7, 8, 9] (outT [(.exit 0, [3])]) (fun d K => A51_1_l3 l3 F d K) [])]) [] code51 Tryd.f51.results.toList (encT sh51_1.vs d.1) (encH sh51_1.h d.2) K = A51_1 (fun (a1 : Int) (a2 : Int) (a3 : Int) (a4 : Int) (K0 : (Int → Option Res)) => c67_1 a1 a2 a3 a4 (fun x1 => l3 ((x1.length : Nat) : Int) x1 (fun x6 => K0 x6) F 0 0) ) d K := by kernel_rfl
theorem E51_1 (F : Nat) (d : sh51_1.den) (K : KF) : evBody Tryd.prog (T51_1 F) (xw []) 18 0 (LT51_1 F) [] code51 Tryd.f51.results.toList (encT sh51_1.vs d.1) (encH sh51_1.h d.2) K = A51_1 (f51_1 F) d K := Eq.mp (by kernel_rfl) (E51_1g F (f67_1 F) (f51_1_l3 F)  d K)
theorem S51_1_ok (F : Nat) (o : Summ) (ho : SoundFn Tryd.prog 51 o) : SoundFn Tryd.prog 51 (S51_1 F o) :=
  soundFn_of (fn := Tryd.f51) (c := code51) rfl rfl (by kernel_rfl) (tab_cons (S67_1_ok F _ (noS_sound enter67)) tab_nil) (by kernel_rfl) (by kernel_rfl) ho (by rw [loops51]; exact (loopsOK_cons (by kernel_rfl) (L51_1_3 F) loopsOK_nil)) (by rw [scopes51]; exact scopesOK_nil) (by rw [ranges51]; exact rangesOK_nil) (E51_1 F)
end Go.Proofs.YtlgopekjjkdkiaaDoor.X
end

section
namespace Go.Proofs.YtlgopekjjkdkiaaDoor.X
open Go Go.Proofs.YtlgopekjjkdkiaaDoor.Ev Go.Proofs
set_option linter.unusedVariables false
set_option linter.unusedSectionVars false
/-! undo.may -/
noncomputable def f36_1 {β : Type} (F : Nat) (a1 : Int) (a2 : Int) (a3 : Int) (a4 : Int) (a5 : Int) (K0 : Bool → Option β) : Option β := cond (decide (a5 ≥ 6)) (f51_1 F a1 a2 a3 a4 (fun x1 => K0 (decide (a5 < IntKind.i64.wrap ((IntKind.i64.wrap (6 + a1)) + x1)))) ) (K0 false)
variable [FZ]
def sh36_1 : Sh := ⟨[.agg [.int .i64, .int .i64, .int .i64, .int .i64], .lf (.int .i64)], []⟩
abbrev Y36_1 := Int → Int → Int → Int → Int → (Bool → Option Res) → Option Res
noncomputable def A36_1 (g : Y36_1) (d : sh36_1.den) (K : KF) : Option Res := g d.1.1.1 d.1.1.2.1 d.1.1.2.2.1 d.1.1.2.2.2.1 d.1.2.1 (fun (y0 : Bool) => K [.lf (.bool y0)] [])
noncomputable def S36_1 (F : Nat) (o : Summ) : Summ := mkS sh36_1 (fun d K => A36_1 (f36_1 F) d K) o
noncomputable def code36 : Code := bodyOf Tryd.f36
theorem scopes36 : scopesOf code36 = [] := by kernel_rfl
theorem ranges36 : rangesOf code36 = [] := by kernel_rfl
theorem loops36 : loopsOf code36 = [] := by kernel_rfl
theorem enter36 : ∀ args w, (callFunc 36 args).run Tryd.prog w = .ok (.enter 36 args) w := enter_of (fn := Tryd.f36) (by kernel_rfl) (by kernel_rfl) (by kernel_rfl)
noncomputable def T36_1 (F : Nat) : FuncId → Option Summ := tab [(51, (S51_1 F noS))]
noncomputable def TB36_1 (c51_1 : Y51_1) : FuncId → Option Summ := tab [(51, (mkS sh51_1 (fun d K => A51_1 c51_1 d K) noS))]
noncomputable def LT36_1 (F : Nat) : Nat → Option LoopS := ltab []
theorem E36_1g (F : Nat) (c51_1 : Y51_1)   (d : sh36_1.den) (K : KF) : evBody Tryd.prog (TB36_1 c51_1) (xw []) 17 0 (ltab []) [] code36 Tryd.f36.results.toList (encT sh36_1.vs d.1) (encH sh36_1.h d.2) K = A36_1 (fun (a1 : Int) (a2 : Int) (a3 : Int) (a4 : Int) (a5 : Int) (K0 : (Bool → Option Res)) => cond (decide (a5 ≥ 6)) (c51_1 a1 a2 a3 a4 (fun x1 => K0 (decide (a5 < IntKind.i64.wrap ((IntKind.i64.wrap (6 + a1)) + x1)))) ) (K0 false)) d K := by kernel_rfl
theorem E36_1 (F : Nat) (d : sh36_1.den) (K : KF) : evBody Tryd.prog (T36_1 F) (xw []) 17 0 (LT36_1 F) [] code36 Tryd.f36.results.toList (encT sh36_1.vs d.1) (encH sh36_1.h d.2) K = A36_1 (f36_1 F) d K := Eq.mp (by kernel_rfl) (E36_1g F (f51_1 F)   d K)
theorem S36_1_ok (F : Nat) (o : Summ) (ho : SoundFn Tryd.prog 36 o) : SoundFn Tryd.prog 36 (S36_1 F o) :=
  soundFn_of (fn := Tryd.f36) (c := code36) rfl rfl (by kernel_rfl) (tab_cons (S51_1_ok F _ (noS_sound enter51)) tab_nil) (by kernel_rfl) (by kernel_rfl) ho (by rw [loops36]; exact loopsOK_nil) (by rw [scopes36]; exact scopesOK_nil) (by rw [ranges36]; exact rangesOK_nil) (E36_1 F)
end Go.Proofs.YtlgopekjjkdkiaaDoor.X
end

section
namespace Go.Proofs.YtlgopekjjkdkiaaDoor.X
open Go Go.Proofs.YtlgopekjjkdkiaaDoor.Ev Go.Proofs
set_option linter.unusedVariables false
set_option linter.unusedSectionVars false
/-! geom.area -/
noncomputable def f50_1 {β : Type} (F : Nat) (a1 : Int) (a2 : Int) (a3 : Int) (a4 : Int) (a5 : Int) (K0 : Int → Bool → Option β) : Option β := cond (a5 == 0) (f27_1 F a1 a2 a3 a4 (fun x1 => K0 (IntKind.i64.wrap (2 * a3)) x1) ) (cond (a5 == 1) (f27_1 F a1 a2 a3 a4 (fun x2 => K0 (IntKind.i64.wrap (2 * a4)) x2) ) (K0 0 false))
variable [FZ]
def sh50_1 : Sh := ⟨[.agg [.int .i64, .int .i64, .int .i64, .int .i64], .lf (.int .i64)], []⟩
abbrev Y50_1 := Int → Int → Int → Int → Int → (Int → Bool → Option Res) → Option Res
noncomputable def A50_1 (g : Y50_1) (d : sh50_1.den) (K : KF) : Option Res := g d.1.1.1 d.1.1.2.1 d.1.1.2.2.1 d.1.1.2.2.2.1 d.1.2.1 (fun (y0 : Int) (y1 : Bool) => K [.lf (.int .i64 y0), .lf (.bool y1)] [])
noncomputable def S50_1 (F : Nat) (o : Summ) : Summ := mkS sh50_1 (fun d K => A50_1 (f50_1 F) d K) o
noncomputable def code50 : Code := bodyOf Tryd.f50
theorem scopes50 : scopesOf code50 = [] := by kernel_rfl
theorem ranges50 : rangesOf code50 = [] := by kernel_rfl
theorem loops50 : loopsOf code50 = [] := by kernel_rfl
theorem enter50 : ∀ args w, (callFunc 50 args).run Tryd.prog w = .ok (.enter 50 args) w := enter_of (fn := Tryd.f50) (by kernel_rfl) (by kernel_rfl) (by kernel_rfl)
noncomputable def T50_1 (F : Nat) : FuncId → Option Summ := tab [(27, (S27_1 F noS))]
noncomputable def TB50_1 (c27_1 : Y27_1) : FuncId → Option Summ := tab [(27, (mkS sh27_1 (fun d K => A27_1 c27_1 d K) noS))]
noncomputable def LT50_1 (F : Nat) : Nat → Option LoopS := ltab []
theorem E50_1g (F : Nat) (c27_1 : Y27_1)   (d : sh50_1.den) (K : KF) : evBody Tryd.prog (TB50_1 c27_1) (xw []) 21 0 (ltab []) [] code50 Tryd.f50.results.toList (encT sh50_1.vs d.1) (encH sh50_1.h d.2) K = A50_1 (fun (a1 : Int) (a2 : Int) (a3 : Int) (a4 : Int) (a5 : Int) (K0 : (Int → Bool → Option Res)) => cond (a5 == 0) (c27_1 a1 a2 a3 a4 (fun x1 => K0 (IntKind.i64.wrap (2 * a3)) x1) ) (cond (a5 == 1) (c27_1 a1 a2 a3 a4 (fun x2 => K0 (IntKind.i64.wrap (2 * a4)) x2) ) (K0 0 false))) d K := by kernel_rfl
theorem E50_1 (F : Nat) (d : sh50_1.den) (K : KF) : evBody Tryd.prog (T50_1 F) (xw []) 21 0 (LT50_1 F) [] code50 Tryd.f50.results.toList (encT sh50_1.vs d.1) (encH sh50_1.h d.2) K = A50_1 (f50_1 F) d K := Eq.mp (by kernel_rfl) (E50_1g F (f27_1 F)   d K)
theorem S50_1_ok (F : Nat) (o : Summ) (ho : SoundFn Tryd.prog 50 o) : SoundFn Tryd.prog 50 (S50_1 F o) :=
  soundFn_of (fn := Tryd.f50) (c := code50) rfl rfl (by kernel_rfl) (tab_cons (S27_1_ok F _ (noS_sound enter27)) tab_nil) (by kernel_rfl) (by kernel_rfl) ho (by rw [loops50]; exact loopsOK_nil) (by rw [scopes50]; exact scopesOK_nil) (by rw [ranges50]; exact rangesOK_nil) (E50_1 F)
end Go.Proofs.YtlgopekjjkdkiaaDoor.X
end

section
namespace Go.Proofs.YtlgopekjjkdkiaaDoor.X
open Go Go.Proofs.YtlgopekjjkdkiaaDoor.Ev Go.Proofs
set_option linter.unusedVariables false
set_option linter.unusedSectionVars false
/-! geom.Area -/
noncomputable def f31_1 {β : Type} (F : Nat) (a1 : Int) (a2 : Int) (a3 : Int) (a4 : Int) (a5 : Int) (a6 : Int) (K0 : Int → Option β) : Option β := f50_1 F a1 a2 a3 a4 a5 (fun x1 x2 => cond (!x2) (K0 (-1)) (f45_1 F a6 0 (IntKind.i64.wrap (x1 - 1)) (fun x3 => cond (!x3) (K0 (-1)) (f51_1 F a1 a2 a3 a4 (fun x4 => K0 (IntKind.i64.wrap ((IntKind.i64.wrap ((IntKind.i64.wrap (6 + a1)) + x4)) + a6))) )) )) 
variable [FZ]
def sh31_1 : Sh := ⟨[.agg [.int .i64, .int .i64, .int .i64, .int .i64], .lf (.int .i64), .lf (.int .i64)], []⟩
abbrev Y31_1 := Int → Int → Int → Int → Int → Int → (Int → Option Res) → Option Res
noncomputable def A31_1 (g : Y31_1) (d : sh31_1.den) (K : KF) : Option Res := g d.1.1.1 d.1.1.2.1 d.1.1.2.2.1 d.1.1.2.2.2.1 d.1.2.1 d.1.2.2.1 (fun (y0 : Int) => K [.lf (.int .i64 y0)] [])
noncomputable def S31_1 (F : Nat) (o : Summ) : Summ := mkS sh31_1 (fun d K => A31_1 (f31_1 F) d K) o
noncomputable def code31 : Code := bodyOf Tryd.f31
theorem scopes31 : scopesOf code31 = [] := by kernel_rfl
theorem ranges31 : rangesOf code31 = [] := by kernel_rfl
theorem loops31 : loopsOf code31 = [] := by kernel_rfl
theorem enter31 : ∀ args w, (callFunc 31 args).run Tryd.prog w = .ok (.enter 31 args) w := enter_of (fn := Tryd.f31) (by kernel_rfl) (by kernel_rfl) (by kernel_rfl)
noncomputable def T31_1 (F : Nat) : FuncId → Option Summ := tab [(45, (S45_1 F noS)), (50, (S50_1 F noS)), (51, (S51_1 F noS))]
noncomputable def TB31_1 (c45_1 : Y45_1) (c50_1 : Y50_1) (c51_1 : Y51_1) : FuncId → Option Summ := tab [(45, (mkS sh45_1 (fun d K => A45_1 c45_1 d K) noS)), (50, (mkS sh50_1 (fun d K => A50_1 c50_1 d K) noS)), (51, (mkS sh51_1 (fun d K => A51_1 c51_1 d K) noS))]
noncomputable def LT31_1 (F : Nat) : Nat → Option LoopS := ltab []
theorem E31_1g (F : Nat) (c45_1 : Y45_1) (c50_1 : Y50_1) (c51_1 : Y51_1)   (d : sh31_1.den) (K : KF) : evBody Tryd.prog (TB31_1 c45_1 c50_1 c51_1) (xw []) 32 0 (ltab []) [] code31 Tryd.f31.results.toList (encT sh31_1.vs d.1) (encH sh31_1.h d.2) K = A31_1 (fun (a1 : Int) (a2 : Int) (a3 : Int) (a4 : Int) (a5 : Int) (a6 : Int) (K0 : (Int → Option Res)) => c50_1 a1 a2 a3 a4 a5 (fun x1 x2 => cond (!x2) (K0 (-1)) (c45_1 a6 0 (IntKind.i64.wrap (x1 - 1)) (fun x3 => cond (!x3) (K0 (-1)) (c51_1 a1 a2 a3 a4 (fun x4 => K0 (IntKind.i64.wrap ((IntKind.i64.wrap ((IntKind.i64.wrap (6 + a1)) + x4)) + a6))) )) )) ) d K := by kernel_rfl
theorem E31_1 (F : Nat) (d : sh31_1.den) (K : KF) : evBody Tryd.prog (T31_1 F) (xw []) 32 0 (LT31_1 F) [] code31 Tryd.f31.results.toList (encT sh31_1.vs d.1) (encH sh31_1.h d.2) K = A31_1 (f31_1 F) d K := Eq.mp (by kernel_rfl) (E31_1g F (f45_1 F) (f50_1 F) (f51_1 F)   d K)
theorem S31_1_ok (F : Nat) (o : Summ) (ho : SoundFn Tryd.prog 31 o) : SoundFn Tryd.prog 31 (S31_1 F o) :=
  soundFn_of (fn := Tryd.f31) (c := code31) rfl rfl (by kernel_rfl) (tab_cons (S45_1_ok F _ (noS_sound enter45)) (tab_cons (S50_1_ok F _ (noS_sound enter50)) (tab_cons (S51_1_ok F _ (noS_sound enter51)) tab_nil))) (by kernel_rfl) (by kernel_rfl) ho (by rw [loops31]; exact loopsOK_nil) (by rw [scopes31]; exact scopesOK_nil) (by rw [ranges31]; exact rangesOK_nil) (E31_1 F)
end Go.Proofs.YtlgopekjjkdkiaaDoor.X
end

section
namespace Go.Proofs.YtlgopekjjkdkiaaDoor.X
open Go Go.Proofs.YtlgopekjjkdkiaaDoor.Ev Go.Proofs
set_option linter.unusedVariables false
set_option linter.unusedSectionVars false
/-! undo.area -/
noncomputable def f37_1 {β : Type} (F : Nat) (a1 : Int) (a2 : Int) (a3 : Int) (a4 : Int) (a5 : Int) (K0 : Int → Int → Option β) : Option β := f31_1 F a1 a2 a3 a4 1 (IntKind.i64.wrap (2 * a5)) (fun x1 => f31_1 F a1 a2 a3 a4 1 (IntKind.i64.wrap ((IntKind.i64.wrap (2 * a5)) + 1)) (fun x2 => K0 x1 x2) ) 
variable [FZ]
def sh37_1 : Sh := ⟨[.agg [.int .i64, .int .i64, .int .i64, .int .i64], .lf (.int .i64)], []⟩
abbrev Y37_1 := Int → Int → Int → Int → Int → (Int → Int → Option Res) → Option Res
noncomputable def A37_1 (g : Y37_1) (d : sh37_1.den) (K : KF) : Option Res := g d.1.1.1 d.1.1.2.1 d.1.1.2.2.1 d.1.1.2.2.2.1 d.1.2.1 (fun (y0 : Int) (y1 : Int) => K [.lf (.int .i64 y0), .lf (.int .i64 y1)] [])
noncomputable def S37_1 (F : Nat) (o : Summ) : Summ := mkS sh37_1 (fun d K => A37_1 (f37_1 F) d K) o
noncomputable def code37 : Code := bodyOf Tryd.f37
theorem scopes37 : scopesOf code37 = [] := by kernel_rfl
theorem ranges37 : rangesOf code37 = [] := by kernel_rfl
theorem loops37 : loopsOf code37 = [] := by kernel_rfl
theorem enter37 : ∀ args w, (callFunc 37 args).run Tryd.prog w = .ok (.enter 37 args) w := enter_of (fn := Tryd.f37) (by kernel_rfl) (by kernel_rfl) (by kernel_rfl)
noncomputable def T37_1 (F : Nat) : FuncId → Option Summ := tab [(31, (S31_1 F noS))]
noncomputable def TB37_1 (c31_1 : Y31_1) : FuncId → Option Summ := tab [(31, (mkS sh31_1 (fun d K => A31_1 c31_1 d K) noS))]
noncomputable def LT37_1 (F : Nat) : Nat → Option LoopS := ltab []
theorem E37_1g (F : Nat) (c31_1 : Y31_1)   (d : sh37_1.den) (K : KF) : evBody Tryd.prog (TB37_1 c31_1) (xw []) 15 0 (ltab []) [] code37 Tryd.f37.results.toList (encT sh37_1.vs d.1) (encH sh37_1.h d.2) K = A37_1 (fun (a1 : Int) (a2 : Int) (a3 : Int) (a4 : Int) (a5 : Int) (K0 : (Int → Int → Option Res)) => c31_1 a1 a2 a3 a4 1 (IntKind.i64.wrap (2 * a5)) (fun x1 => c31_1 a1 a2 a3 a4 1 (IntKind.i64.wrap ((IntKind.i64.wrap (2 * a5)) + 1)) (fun x2 => K0 x1 x2) ) ) d K := by kernel_rfl
theorem E37_1 (F : Nat) (d : sh37_1.den) (K : KF) : evBody Tryd.prog (T37_1 F) (xw []) 15 0 (LT37_1 F) [] code37 Tryd.f37.results.toList (encT sh37_1.vs d.1) (encH sh37_1.h d.2) K = A37_1 (f37_1 F) d K := Eq.mp (by kernel_rfl) (E37_1g F (f31_1 F)   d K)
theorem S37_1_ok (F : Nat) (o : Summ) (ho : SoundFn Tryd.prog 37 o) : SoundFn Tryd.prog 37 (S37_1 F o) :=
  soundFn_of (fn := Tryd.f37) (c := code37) rfl rfl (by kernel_rfl) (tab_cons (S31_1_ok F _ (noS_sound enter31)) tab_nil) (by kernel_rfl) (by kernel_rfl) ho (by rw [loops37]; exact loopsOK_nil) (by rw [scopes37]; exact scopesOK_nil) (by rw [ranges37]; exact rangesOK_nil) (E37_1 F)
end Go.Proofs.YtlgopekjjkdkiaaDoor.X
end

section
namespace Go.Proofs.YtlgopekjjkdkiaaDoor.X
open Go Go.Proofs.YtlgopekjjkdkiaaDoor.Ev Go.Proofs
set_option linter.unusedVariables false
set_option linter.unusedSectionVars false
/-! sector.Right -/
noncomputable def f65_1 {β : Type} (F : Nat) (a1 : ByteArray) (K0 : Bool → Option β) : Option β := K0 ((a1.size : Int) == 64)
variable [FZ]
def sh65_1 : Sh := ⟨[.lf (.str)], []⟩
abbrev Y65_1 := ByteArray → (Bool → Option Res) → Option Res
noncomputable def A65_1 (g : Y65_1) (d : sh65_1.den) (K : KF) : Option Res := g d.1.1 (fun (y0 : Bool) => K [.lf (.bool y0)] [])
noncomputable def S65_1 (F : Nat) (o : Summ) : Summ := mkS sh65_1 (fun d K => A65_1 (f65_1 F) d K) o
noncomputable def code65 : Code := bodyOf Tryd.f65
theorem scopes65 : scopesOf code65 = [] := by kernel_rfl
theorem ranges65 : rangesOf code65 = [] := by kernel_rfl
theorem loops65 : loopsOf code65 = [] := by kernel_rfl
theorem enter65 : ∀ args w, (callFunc 65 args).run Tryd.prog w = .ok (.enter 65 args) w := enter_of (fn := Tryd.f65) (by kernel_rfl) (by kernel_rfl) (by kernel_rfl)
noncomputable def T65_1 (F : Nat) : FuncId → Option Summ := tab []
noncomputable def TB65_1  : FuncId → Option Summ := tab []
noncomputable def LT65_1 (F : Nat) : Nat → Option LoopS := ltab []
theorem E65_1g (F : Nat)    (d : sh65_1.den) (K : KF) : evBody Tryd.prog TB65_1 (xw []) 6 0 (ltab []) [] code65 Tryd.f65.results.toList (encT sh65_1.vs d.1) (encH sh65_1.h d.2) K = A65_1 (fun (a1 : ByteArray) (K0 : (Bool → Option Res)) => K0 ((a1.size : Int) == 64)) d K := by kernel_rfl
theorem E65_1 (F : Nat) (d : sh65_1.den) (K : KF) : evBody Tryd.prog (T65_1 F) (xw []) 6 0 (LT65_1 F) [] code65 Tryd.f65.results.toList (encT sh65_1.vs d.1) (encH sh65_1.h d.2) K = A65_1 (f65_1 F) d K := Eq.mp (by kernel_rfl) (E65_1g F    d K)
theorem S65_1_ok (F : Nat) (o : Summ) (ho : SoundFn Tryd.prog 65 o) : SoundFn Tryd.prog 65 (S65_1 F o) :=
  soundFn_of (fn := Tryd.f65) (c := code65) rfl rfl (by kernel_rfl) tab_nil (by kernel_rfl) (by kernel_rfl) ho (by rw [loops65]; exact loopsOK_nil) (by rw [scopes65]; exact scopesOK_nil) (by rw [ranges65]; exact rangesOK_nil) (E65_1 F)
end Go.Proofs.YtlgopekjjkdkiaaDoor.X
end

section
namespace Go.Proofs.YtlgopekjjkdkiaaDoor.X
open Go Go.Proofs.YtlgopekjjkdkiaaDoor.Ev Go.Proofs
set_option linter.unusedVariables false
set_option linter.unusedSectionVars false
/-! disk.Disk).burn -/
noncomputable def f66_1 {β : Type} (F : Nat) (a1 : Int) (a2 : Bool) (a3 : Int) (a4 : List ByteArray) (a5 : List (Int × ByteArray)) (K0 : Bool → Int → Bool → Int → Option β) : Option β := cond (a1 == 0) (K0 false (-1) true a3) (cond (a1 == (-1)) (K0 true a1 a2 (IntKind.i64.wrap (a3 + 1))) (K0 true (IntKind.i64.wrap (a1 - 1)) a2 (IntKind.i64.wrap (a3 + 1))))
variable [FZ]
def sh66_1 : Sh := ⟨[.lf (.ptr 0 0)], [some ⟨some false, [.full 1, .full 2, .int .i64, .bool, .int .i64]⟩, some ⟨none, [.seq .str 0]⟩, some ⟨none, [.seq (.pair (.int .i64) .str) 0]⟩]⟩
abbrev Y66_1 := Int → Bool → Int → List ByteArray → List (Int × ByteArray) → (Bool → Int → Bool → Int → Option Res) → Option Res
noncomputable def A66_1 (g : Y66_1) (d : sh66_1.den) (K : KF) : Option Res := g d.2.1.2.2.2.1 d.2.1.2.2.2.2.1 d.2.1.2.2.2.2.2.1 d.2.2.1.2.1 d.2.2.2.1.2.1 (fun (y0 : Bool) (y1 : Int) (y2 : Bool) (y3 : Int) => K [.lf (.bool y0)] [some ⟨false, [.full 1, .full 2, .int .i64 y1, .bool y2, .int .i64 y3]⟩, some ⟨d.2.2.1.1, [.seq .str 0 d.2.2.1.2.1]⟩, some ⟨d.2.2.2.1.1, [.seq (.pair (.int .i64) .str) 0 d.2.2.2.1.2.1]⟩])
noncomputable def S66_1 (F : Nat) (o : Summ) : Summ := mkS sh66_1 (fun d K => A66_1 (f66_1 F) d K) o
noncomputable def code66 : Code := bodyOf Tryd.f66
theorem scopes66 : scopesOf code66 = [] := by kernel_rfl
theorem ranges66 : rangesOf code66 = [] := by kernel_rfl
theorem loops66 : loopsOf code66 = [] := by kernel_rfl
theorem enter66 : ∀ args w, (callFunc 66 args).run Tryd.prog w = .ok (.enter 66 args) w := enter_of (fn := Tryd.f66) (by kernel_rfl) (by kernel_rfl) (by kernel_rfl)
noncomputable def T66_1 (F : Nat) : FuncId → Option Summ := tab []
noncomputable def TB66_1  : FuncId → Option Summ := tab []
noncomputable def LT66_1 (F : Nat) : Nat → Option LoopS := ltab []
theorem E66_1g (F : Nat)    (d : sh66_1.den) (K : KF) : evBody Tryd.prog TB66_1 (xw []) 31 3 (ltab []) [] code66 Tryd.f66.results.toList (encT sh66_1.vs d.1) (encH sh66_1.h d.2) K = A66_1 (fun (a1 : Int) (a2 : Bool) (a3 : Int) (a4 : List ByteArray) (a5 : List (Int × ByteArray)) (K0 : (Bool → Int → Bool → Int → Option Res)) => cond (a1 == 0) (K0 false (-1) true a3) (cond (a1 == (-1)) (K0 true a1 a2 (IntKind.i64.wrap (a3 + 1))) (K0 true (IntKind.i64.wrap (a1 - 1)) a2 (IntKind.i64.wrap (a3 + 1))))) d K := by kernel_rfl
theorem E66_1 (F : Nat) (d : sh66_1.den) (K : KF) : evBody Tryd.prog (T66_1 F) (xw []) 31 3 (LT66_1 F) [] code66 Tryd.f66.results.toList (encT sh66_1.vs d.1) (encH sh66_1.h d.2) K = A66_1 (f66_1 F) d K := Eq.mp (by kernel_rfl) (E66_1g F    d K)
theorem S66_1_ok (F : Nat) (o : Summ) (ho : SoundFn Tryd.prog 66 o) : SoundFn Tryd.prog 66 (S66_1 F o) :=
  soundFn_of (fn := Tryd.f66) (c := code66) rfl rfl (by kernel_rfl) tab_nil (by kernel_rfl) (by kernel_rfl) ho (by rw [loops66]; exact loopsOK_nil) (by rw [scopes66]; exact scopesOK_nil) (by rw [ranges66]; exact rangesOK_nil) (E66_1 F)
end Go.Proofs.YtlgopekjjkdkiaaDoor.X
end

section
namespace Go.Proofs.YtlgopekjjkdkiaaDoor.X
open Go Go.Proofs.YtlgopekjjkdkiaaDoor.Ev Go.Proofs
set_option linter.unusedVariables false
set_option linter.unusedSectionVars false
/-! disk.Disk).Write -/
noncomputable def f48_1 {β : Type} (F : Nat) (a1 : Int) (a2 : ByteArray) (a3 : Int) (a4 : Bool) (a5 : Int) (a6 : List ByteArray) (a7 : List (Int × ByteArray)) (K0 : Int → Int → Bool → Int → List (Int × ByteArray) → Option β) : Option β := cond a4 (K0 5 a3 a4 a5 a7) (f64_1 F a1 a3 a4 a5 a6 a7 (fun x1 => cond (!x1) (K0 3 a3 a4 a5 a7) (f65_1 F a2 (fun x2 => cond (!x2) (K0 4 a3 a4 a5 a7) (f66_1 F a3 a4 a5 a6 a7 (fun x3 x4 x5 x6 => cond (!x3) (K0 5 x4 x5 x6 a7) (cond (decide ((a7.length + 1) * 24 ≤ 70368744177664)) (K0 0 x4 x5 x6 (a7 ++ [(a1, a2)])) none)) )) )) )
variable [FZ]
def sh48_1 : Sh := ⟨[.lf (.ptr 0 0), .lf (.int .i64), .lf (.str)], [some ⟨some false, [.full 1, .full 2, .int .i64, .bool, .int .i64]⟩, some ⟨none, [.seq .str 0]⟩, some ⟨some false, [.seq (.pair (.int .i64) .str) 0]⟩]⟩
abbrev Y48_1 := Int → ByteArray → Int → Bool → Int → List ByteArray → List (Int × ByteArray) → (Int → Int → Bool → Int → List (Int × ByteArray) → Option Res) → Option Res
noncomputable def A48_1 (g : Y48_1) (d : sh48_1.den) (K : KF) : Option Res := g d.1.2.1 d.1.2.2.1 d.2.1.2.2.2.1 d.2.1.2.2.2.2.1 d.2.1.2.2.2.2.2.1 d.2.2.1.2.1 d.2.2.2.1.2.1 (fun (y0 : Int) (y1 : Int) (y2 : Bool) (y3 : Int) (y5 : List (Int × ByteArray)) => K [.lf (.int .i64 y0)] [some ⟨false, [.full 1, .full 3, .int .i64 y1, .bool y2, .int .i64 y3]⟩, some ⟨d.2.2.1.1, [.seq .str 0 d.2.2.1.2.1]⟩, none, some ⟨false, [.seq (.pair (.int .i64) .str) 0 y5]⟩])
noncomputable def S48_1 (F : Nat) (o : Summ) : Summ := mkS sh48_1 (fun d K => A48_1 (f48_1 F) d K) o
noncomputable def code48 : Code := bodyOf Tryd.f48
theorem scopes48 : scopesOf code48 = [] := by kernel_rfl
theorem ranges48 : rangesOf code48 = [] := by kernel_rfl
theorem loops48 : loopsOf code48 = [] := by kernel_rfl
theorem enter48 : ∀ args w, (callFunc 48 args).run Tryd.prog w = .ok (.enter 48 args) w := enter_of (fn := Tryd.f48) (by kernel_rfl) (by kernel_rfl) (by kernel_rfl)
noncomputable def T48_1 (F : Nat) : FuncId → Option Summ := tab [(64, (S64_1 F noS)), (65, (S65_1 F noS)), (66, (S66_1 F noS))]
noncomputable def TB48_1 (c64_1 : Y64_1) (c65_1 : Y65_1) (c66_1 : Y66_1) : FuncId → Option Summ := tab [(64, (mkS sh64_1 (fun d K => A64_1 c64_1 d K) noS)), (65, (mkS sh65_1 (fun d K => A65_1 c65_1 d K) noS)), (66, (mkS sh66_1 (fun d K => A66_1 c66_1 d K) noS))]
noncomputable def LT48_1 (F : Nat) : Nat → Option LoopS := ltab []
theorem E48_1g (F : Nat) (c64_1 : Y64_1) (c65_1 : Y65_1) (c66_1 : Y66_1)   (d : sh48_1.den) (K : KF) : evBody Tryd.prog (TB48_1 c64_1 c65_1 c66_1) (xw []) 40 3 (ltab []) [2] code48 Tryd.f48.results.toList (encT sh48_1.vs d.1) (encH sh48_1.h d.2) K = A48_1 (fun (a1 : Int) (a2 : ByteArray) (a3 : Int) (a4 : Bool) (a5 : Int) (a6 : List ByteArray) (a7 : List (Int × ByteArray)) (K0 : (Int → Int → Bool → Int → List (Int × ByteArray) → Option Res)) => cond a4 (K0 5 a3 a4 a5 a7) (c64_1 a1 a3 a4 a5 a6 a7 (fun x1 => cond (!x1) (K0 3 a3 a4 a5 a7) (c65_1 a2 (fun x2 => cond (!x2) (K0 4 a3 a4 a5 a7) (c66_1 a3 a4 a5 a6 a7 (fun x3 x4 x5 x6 => cond (!x3) (K0 5 x4 x5 x6 a7) (cond (decide ((a7.length + 1) * 24 ≤ 70368744177664)) (K0 0 x4 x5 x6 (a7 ++ [(a1, a2)])) none)) )) )) )) d K := by kernel_rfl
theorem E48_1 (F : Nat) (d : sh48_1.den) (K : KF) : evBody Tryd.prog (T48_1 F) (xw []) 40 3 (LT48_1 F) [2] code48 Tryd.f48.results.toList (encT sh48_1.vs d.1) (encH sh48_1.h d.2) K = A48_1 (f48_1 F) d K := Eq.mp (by kernel_rfl) (E48_1g F (f64_1 F) (f65_1 F) (f66_1 F)   d K)
theorem S48_1_ok (F : Nat) (o : Summ) (ho : SoundFn Tryd.prog 48 o) : SoundFn Tryd.prog 48 (S48_1 F o) :=
  soundFn_of (fn := Tryd.f48) (c := code48) rfl rfl (by kernel_rfl) (tab_cons (S64_1_ok F _ (noS_sound enter64)) (tab_cons (S65_1_ok F _ (noS_sound enter65)) (tab_cons (S66_1_ok F _ (noS_sound enter66)) tab_nil))) (by kernel_rfl) (by kernel_rfl) ho (by rw [loops48]; exact loopsOK_nil) (by rw [scopes48]; exact scopesOK_nil) (by rw [ranges48]; exact rangesOK_nil) (E48_1 F)
end Go.Proofs.YtlgopekjjkdkiaaDoor.X
end

section
namespace Go.Proofs.YtlgopekjjkdkiaaDoor.X
open Go Go.Proofs.YtlgopekjjkdkiaaDoor.Ev Go.Proofs
set_option linter.unusedVariables false
set_option linter.unusedSectionVars false
/-! disk.Disk).Flush -/
noncomputable def f49_1_l6 {β : Type} (F : Nat) (v5 : Int) (v7 : Int) (v8 : Bool) (v9 : Int) (v11 : List (Int × ByteArray)) (K0 : List ByteArray → Option β) : Nat → Int → List ByteArray → Option β
  | 0, _, _ => none
  | k + 1, v6, v10 => cond (decide (v6 < v5)) (cond (decide ((0 : Int) ≤ v6 ∧ v6 < ((v11.length : Nat) : Int))) (cond (decide (0 + v6.toNat < v11.length)) (cond (decide ((0 : Int) ≤ (v11.getD (0 + v6.toNat) (0, ByteArray.empty)).1 ∧ (v11.getD (0 + v6.toNat) (0, ByteArray.empty)).1 < ((v10.length : Nat) : Int))) (cond (decide (0 + (((v11.getD (0 + v6.toNat) (0, ByteArray.empty)).1).toNat) < v10.length)) (f49_1_l6 F v5 v7 v8 v9 v11 K0 k (IntKind.i64.wrap (v6 + 1)) (v10.set (0 + (((v11.getD (0 + v6.toNat) (0, ByteArray.empty)).1).toNat)) ((v11.getD (0 + v6.toNat) (0, ByteArray.empty)).2))) none) none) none) none) (K0 v10)
noncomputable def f49_1 {β : Type} (F : Nat) (a1 : Int) (a2 : Bool) (a3 : Int) (a4 : List ByteArray) (a5 : List (Int × ByteArray)) (K0 : Int → Int → Bool → Int → List ByteArray → List (Int × ByteArray) → Option β) : Option β := cond a2 (K0 5 a1 a2 a3 a4 a5) (f66_1 F a1 a2 a3 a4 a5 (fun x1 x2 x3 x4 => cond (!x1) (K0 5 x2 x3 x4 a4 a5) (f49_1_l6 F ((a5.length : Nat) : Int) x2 x3 x4 a5 (fun x12 => K0 0 x2 x3 x4 x12 []) F 0 a4)) )
variable [FZ]
def sh49_1 : Sh := ⟨[.lf (.ptr 0 0)], [some ⟨some false, [.full 1, .full 2, .int .i64, .bool, .int .i64]⟩, some ⟨some false, [.seq .str 0]⟩, some ⟨some false, [.seq (.pair (.int .i64) .str) 0]⟩]⟩
abbrev Y49_1 := Int → Bool → Int → List ByteArray → List (Int × ByteArray) → (Int → Int → Bool → Int → List ByteArray → List (Int × ByteArray) → Option Res) → Option Res
noncomputable def A49_1 (g : Y49_1) (d : sh49_1.den) (K : KF) : Option Res := g d.2.1.2.2.2.1 d.2.1.2.2.2.2.1 d.2.1.2.2.2.2.2.1 d.2.2.1.2.1 d.2.2.2.1.2.1 (fun (y0 : Int) (y1 : Int) (y2 : Bool) (y3 : Int) (y4 : List ByteArray) (y5 : List (Int × ByteArray)) => K [.lf (.int .i64 y0)] [some ⟨false, [.full 1, .full 3, .int .i64 y1, .bool y2, .int .i64 y3]⟩, some ⟨false, [.seq .str 0 y4]⟩, none, some ⟨false, [.seq (.pair (.int .i64) .str) 0 y5]⟩])
noncomputable def S49_1 (F : Nat) (o : Summ) : Summ := mkS sh49_1 (fun d K => A49_1 (f49_1 F) d K) o
noncomputable def code49 : Code := bodyOf Tryd.f49
noncomputable def b49_0 : Code := cB (cB (cR (cL (cR (cR (code49))))))
theorem scopes49 : scopesOf code49 = [] := by kernel_rfl
theorem ranges49 : rangesOf code49 = [] := by kernel_rfl
theorem loops49 : loopsOf code49 = [b49_0] := by kernel_rfl
theorem enter49 : ∀ args w, (callFunc 49 args).run Tryd.prog w = .ok (.enter 49 args) w := enter_of (fn := Tryd.f49) (by kernel_rfl) (by kernel_rfl) (by kernel_rfl)
noncomputable def T49_1 (F : Nat) : FuncId → Option Summ := tab [(66, (S66_1 F noS))]
noncomputable def TB49_1 (c66_1 : Y66_1) : FuncId → Option Summ := tab [(66, (mkS sh66_1 (fun d K => A66_1 c66_1 d K) noS))]
def sh49_1_l6 : Sh := ⟨[.lf (.ptr 0 0), .lf (.full 2), .lf (.int .i64), .lf (.int .i64)], [some ⟨some false, [.full 1, .full 2, .int .i64, .bool, .int .i64]⟩, some ⟨some false, [.seq .str 0]⟩, some ⟨some false, [.seq (.pair (.int .i64) .str) 0]⟩]⟩
abbrev Y49_1_l6 := Int → Int → Bool → Int → List (Int × ByteArray) → (List ByteArray → Option Res) → Nat → Int → List ByteArray → Option Res
noncomputable def A49_1_l6 (g : Y49_1_l6) (k : Nat) (d : sh49_1_l6.den) (K : KL) : Option Res := g d.1.2.2.1 d.2.1.2.2.2.1 d.2.1.2.2.2.2.1 d.2.1.2.2.2.2.2.1 d.2.2.2.1.2.1 (fun (y3 : List ByteArray) => K (.exit 1) [.tv (.lf (.ptr 0 0))] [some ⟨false, [.full 1, .full 2, .int .i64 d.2.1.2.2.2.1, .bool d.2.1.2.2.2.2.1, .int .i64 d.2.1.2.2.2.2.2.1]⟩, some ⟨false, [.seq .str 0 y3]⟩, some ⟨false, [.seq (.pair (.int .i64) .str) 0 d.2.2.2.1.2.1]⟩]) k d.1.2.2.2.1 d.2.2.1.2.1
noncomputable def G49_1_6 (F k : Nat) : LoopS := mkG sh49_1_l6 [0, 21, 22, 23] (outT [(.exit 1, [0])]) (fun d K => A49_1_l6 (f49_1_l6 F) k d K) []
noncomputable def LT49_1 (F : Nat) : Nat → Option LoopS := ltab [(6, G49_1_6 F F)]
theorem L49_1_l6g (F k : Nat) (c66_1 : Y66_1)  (l6 : Y49_1_l6) (X6 : LoopS) (d : sh49_1_l6.den) (K : KL) : A49_1_l6 ((fun (v5 : Int) (v7 : Int) (v8 : Bool) (v9 : Int) (v11 : List (Int × ByteArray)) (K0 : (List ByteArray → Option Res)) (k : Nat) (v6 : Int) (v10 : List ByteArray) => cond (decide (v6 < v5)) (cond (decide ((0 : Int) ≤ v6 ∧ v6 < ((v11.length : Nat) : Int))) (cond (decide (0 + v6.toNat < v11.length)) (cond (decide ((0 : Int) ≤ (v11.getD (0 + v6.toNat) (0, ByteArray.empty)).1 ∧ (v11.getD (0 + v6.toNat) (0, ByteArray.empty)).1 < ((v10.length : Nat) : Int))) (cond (decide (0 + (((v11.getD (0 + v6.toNat) (0, ByteArray.empty)).1).toNat) < v10.length)) (l6 v5 v7 v8 v9 v11 K0 k (IntKind.i64.wrap (v6 + 1)) (v10.set (0 + (((v11.getD (0 + v6.toNat) (0, ByteArray.empty)).1).toNat)) ((v11.getD (0 + v6.toNat) (0, ByteArray.empty)).2))) none) none) none) none) (K0 v10))) k d K = roundOf Tryd.prog (TB49_1 c66_1) (xw []) 40 3 (ltab [(6, X6)]) (mkG sh49_1_l6 [0, 21, 22, 23] (outT [(.exit 1, [0])]) (fun d K => A49_1_l6 l6 k d K) []) b49_0 (encT sh49_1_l6.vs d.1) (encH sh49_1_l6.h d.2) K := by kernel_rfl
theorem L49_1_6 (F : Nat) : LoopOK Tryd.prog (T49_1 F) (xw []) 40 3 (LT49_1 F) (G49_1_6 F F) b49_0 :=
  loopOK_of (s := sh49_1_l6) (live := [0, 21, 22, 23]) (out := (outT [(.exit 1, [0])])) (mv := []) (fun k d K => A49_1_l6 (f49_1_l6 F) k d K) F (fun d K => by kernel_rfl)  (fun k d K => Eq.mp (by kernel_rfl) (L49_1_l6g F k (f66_1 F)  (f49_1_l6 F) (G49_1_6 F F) d K))
theorem E49_1g (F : Nat) (c66_1 : Y66_1) (l6 : Y49_1_l6)  (d : sh49_1.den) (K : KF) : evBody Tryd.prog (TB49_1 c66_1) (xw []) 40 3 (ltab [(6, mkG sh49_1_l6 [0, 21, 22, 23] (outT [(.exit 1, [0])]) (fun d K => A49_1_l6 l6 F d K) [])]) [2] code49 Tryd.f49.results.toList (encT sh49_1.vs d.1) (encH sh49_1.h d.2) K = A49_1 (fun (a1 : Int) (a2 : Bool) (a3 : Int) (a4 : List ByteArray) (a5 : List (Int × ByteArray)) (K0 : (Int → Int → Bool → Int → List ByteArray → List (Int × ByteArray) → Option Res)) => cond a2 (K0 5 a1 a2 a3 a4 a5) (c66_1 a1 a2 a3 a4 a5 (fun x1 x2 x3 x4 => cond (!x1) (K0 5 x2 x3 x4 a4 a5) (l6 ((a5.length : Nat) : Int) x2 x3 x4 a5 (fun x12 => K0 0 x2 x3 x4 x12 []) F 0 a4)) )) d K := by kernel_rfl
theorem E49_1 (F : Nat) (d : sh49_1.den) (K : KF) : evBody Tryd.prog (T49_1 F) (xw []) 40 3 (LT49_1 F) [2] code49 Tryd.f49.results.toList (encT sh49_1.vs d.1) (encH sh49_1.h d.2) K = A49_1 (f49_1 F) d K := Eq.mp (by kernel_rfl) (E49_1g F (f66_1 F) (f49_1_l6 F)  d K)
theorem S49_1_ok (F : Nat) (o : Summ) (ho : SoundFn Tryd.prog 49 o) : SoundFn Tryd.prog 49 (S49_1 F o) :=
  soundFn_of (fn := Tryd.f49) (c := code49) rfl rfl (by kernel_rfl) (tab_cons (S66_1_ok F _ (noS_sound enter66)) tab_nil) (by kernel_rfl) (by kernel_rfl) ho (by rw [loops49]; exact (loopsOK_cons (by kernel_rfl) (L49_1_6 F) loopsOK_nil)) (by rw [scopes49]; exact scopesOK_nil) (by rw [ranges49]; exact rangesOK_nil) (E49_1 F)
end Go.Proofs.YtlgopekjjkdkiaaDoor.X
end

section
namespace Go.Proofs.YtlgopekjjkdkiaaDoor.X
open Go Go.Proofs.YtlgopekjjkdkiaaDoor.Ev Go.Proofs
set_option linter.unusedVariables false
set_option linter.unusedSectionVars false
/-! undo.lay -/
noncomputable def f38_1 {β : Type} (F : Nat) (a1 : Int) (a2 : ByteArray) (a3 : Int) (a4 : Bool) (a5 : Int) (a6 : List ByteArray) (a7 : List (Int × ByteArray)) (K0 : Int → Int → Bool → Int → List ByteArray → List (Int × ByteArray) → Option β) : Option β := f48_1 F a1 a2 a3 a4 a5 a6 a7 (fun x1 x2 x3 x4 x5 => cond (x1 != 0) (K0 x1 x2 x3 x4 a6 x5) (f49_1 F x2 x3 x4 a6 x5 (fun x6 x7 x8 x9 x10 x11 => K0 x6 x7 x8 x9 x10 x11) )) 
variable [FZ]
def sh38_1 : Sh := ⟨[.lf (.ptr 0 0), .lf (.int .i64), .lf (.str)], [some ⟨some false, [.full 1, .full 2, .int .i64, .bool, .int .i64]⟩, some ⟨some false, [.seq .str 0]⟩, some ⟨some false, [.seq (.pair (.int .i64) .str) 0]⟩]⟩
abbrev Y38_1 := Int → ByteArray → Int → Bool → Int → List ByteArray → List (Int × ByteArray) → (Int → Int → Bool → Int → List ByteArray → List (Int × ByteArray) → Option Res) → Option Res
noncomputable def A38_1 (g : Y38_1) (d : sh38_1.den) (K : KF) : Option Res := g d.1.2.1 d.1.2.2.1 d.2.1.2.2.2.1 d.2.1.2.2.2.2.1 d.2.1.2.2.2.2.2.1 d.2.2.1.2.1 d.2.2.2.1.2.1 (fun (y0 : Int) (y1 : Int) (y2 : Bool) (y3 : Int) (y4 : List ByteArray) (y5 : List (Int × ByteArray)) => K [.lf (.int .i64 y0)] [some ⟨false, [.full 1, .full 3, .int .i64 y1, .bool y2, .int .i64 y3]⟩, some ⟨false, [.seq .str 0 y4]⟩, none, some ⟨false, [.seq (.pair (.int .i64) .str) 0 y5]⟩])
noncomputable def S38_1 (F : Nat) (o : Summ) : Summ := mkS sh38_1 (fun d K => A38_1 (f38_1 F) d K) o
noncomputable def code38 : Code := bodyOf Tryd.f38
theorem scopes38 : scopesOf code38 = [] := by kernel_rfl
theorem ranges38 : rangesOf code38 = [] := by kernel_rfl
theorem loops38 : loopsOf code38 = [] := by kernel_rfl
theorem enter38 : ∀ args w, (callFunc 38 args).run Tryd.prog w = .ok (.enter 38 args) w := enter_of (fn := Tryd.f38) (by kernel_rfl) (by kernel_rfl) (by kernel_rfl)
noncomputable def T38_1 (F : Nat) : FuncId → Option Summ := tab [(48, (S48_1 F noS)), (49, (S49_1 F noS))]
noncomputable def TB38_1 (c48_1 : Y48_1) (c49_1 : Y49_1) : FuncId → Option Summ := tab [(48, (mkS sh48_1 (fun d K => A48_1 c48_1 d K) noS)), (49, (mkS sh49_1 (fun d K => A49_1 c49_1 d K) noS))]
noncomputable def LT38_1 (F : Nat) : Nat → Option LoopS := ltab []
theorem E38_1g (F : Nat) (c48_1 : Y48_1) (c49_1 : Y49_1)   (d : sh38_1.den) (K : KF) : evBody Tryd.prog (TB38_1 c48_1 c49_1) (xw []) 17 3 (ltab []) [2] code38 Tryd.f38.results.toList (encT sh38_1.vs d.1) (encH sh38_1.h d.2) K = A38_1 (fun (a1 : Int) (a2 : ByteArray) (a3 : Int) (a4 : Bool) (a5 : Int) (a6 : List ByteArray) (a7 : List (Int × ByteArray)) (K0 : (Int → Int → Bool → Int → List ByteArray → List (Int × ByteArray) → Option Res)) => c48_1 a1 a2 a3 a4 a5 a6 a7 (fun x1 x2 x3 x4 x5 => cond (x1 != 0) (K0 x1 x2 x3 x4 a6 x5) (c49_1 x2 x3 x4 a6 x5 (fun x6 x7 x8 x9 x10 x11 => K0 x6 x7 x8 x9 x10 x11) )) ) d K := by kernel_rfl
theorem E38_1 (F : Nat) (d : sh38_1.den) (K : KF) : evBody Tryd.prog (T38_1 F) (xw []) 17 3 (LT38_1 F) [2] code38 Tryd.f38.results.toList (encT sh38_1.vs d.1) (encH sh38_1.h d.2) K = A38_1 (f38_1 F) d K := Eq.mp (by kernel_rfl) (E38_1g F (f48_1 F) (f49_1 F)   d K)
theorem S38_1_ok (F : Nat) (o : Summ) (ho : SoundFn Tryd.prog 38 o) : SoundFn Tryd.prog 38 (S38_1 F o) :=
  soundFn_of (fn := Tryd.f38) (c := code38) rfl rfl (by kernel_rfl) (tab_cons (S48_1_ok F _ (noS_sound enter48)) (tab_cons (S49_1_ok F _ (noS_sound enter49)) tab_nil)) (by kernel_rfl) (by kernel_rfl) ho (by rw [loops38]; exact loopsOK_nil) (by rw [scopes38]; exact scopesOK_nil) (by rw [ranges38]; exact rangesOK_nil) (E38_1 F)
end Go.Proofs.YtlgopekjjkdkiaaDoor.X
end

section
namespace Go.Proofs.YtlgopekjjkdkiaaDoor.X
open Go Go.Proofs.YtlgopekjjkdkiaaDoor.Ev Go.Proofs
set_option linter.unusedVariables false
set_option linter.unusedSectionVars false
/-! undo.head -/
noncomputable def f39_1_l4 {β : Type} (F : Nat) (v4 : Int) (v7 : List Int) (K0 : List Int → Option β) : Nat → Int → List Int → Option β
  | 0, _, _ => none
  | k + 1, v5, v6 => cond (decide (v5 < v4)) (cond (decide ((0 : Int) ≤ v5 ∧ v5 < ((v7.length : Nat) : Int))) (cond (decide (0 + v5.toNat < v7.length)) (f55_1 F 4 (IntKind.u64.wrap (v7.getD (0 + v5.toNat) 0)) v6 (fun x8 => f39_1_l4 F v4 v7 K0 k (IntKind.i64.wrap (v5 + 1)) x8) ) none) none) (K0 v6)
noncomputable def f39_1 {β : Type} (F : Nat) (a1 : Int) (a2 : Int) (a3 : Int) (a4 : Int) (a5 : ByteArray) (K0 : ByteArray → Option β) : Option β := f55_1 F 8 a2 [] (fun x1 => f55_1 F 8 a3 x1 (fun x2 => f54_1 F (toInts a5) (fun x3 => f39_1_l4 F 3 [IntKind.u32.wrap a1, IntKind.u32.wrap a4, x3] (fun x9 => K0 (ofInts x9)) F 0 x2) ) ) 
variable [FZ]
def sh39_1 : Sh := ⟨[.lf (.int .i64), .agg [.int .u64, .int .u64, .int .i64, .str]], []⟩
abbrev Y39_1 := Int → Int → Int → Int → ByteArray → (ByteArray → Option Res) → Option Res
noncomputable def A39_1 (g : Y39_1) (d : sh39_1.den) (K : KF) : Option Res := g d.1.1 d.1.2.1.1 d.1.2.1.2.1 d.1.2.1.2.2.1 d.1.2.1.2.2.2.1 (fun (y0 : ByteArray) => K [.lf (.str y0)] [])
noncomputable def S39_1 (F : Nat) (o : Summ) : Summ := mkS sh39_1 (fun d K => A39_1 (f39_1 F) d K) o
noncomputable def code39 : Code := bodyOf Tryd.f39
noncomputable def b39_0 : Code := cB (cB (cR (cL (cR (cR (cR (code39)))))))
theorem scopes39 : scopesOf code39 = [] := by kernel_rfl
theorem ranges39 : rangesOf code39 = [] := by kernel_rfl
theorem loops39 : loopsOf code39 = [b39_0] := by kernel_rfl
theorem enter39 : ∀ args w, (callFunc 39 args).run Tryd.prog w = .ok (.enter 39 args) w := enter_of (fn := Tryd.f39) (by kernel_rfl) (by kernel_rfl) (by kernel_rfl)
noncomputable def T39_1 (F : Nat) : FuncId → Option Summ := tab [(54, (S54_1 F noS)), (55, (S55_1 F noS))]
noncomputable def TB39_1 (c54_1 : Y54_1) (c55_1 : Y55_1) : FuncId → Option Summ := tab [(54, (mkS sh54_1 (fun d K => A54_1 c54_1 d K) noS)), (55, (mkS sh55_1 (fun d K => A55_1 c55_1 d K) noS))]
def sh39_1_l4 : Sh := ⟨[.lf (.full 0), .lf (.full 1), .lf (.int .i64), .lf (.int .i64)], [some ⟨some false, [.seq (.int .u8) 0]⟩, some ⟨some false, [.seq (.int .u32) 0]⟩]⟩
abbrev Y39_1_l4 := Int → List Int → (List Int → Option Res) → Nat → Int → List Int → Option Res
noncomputable def A39_1_l4 (g : Y39_1_l4) (k : Nat) (d : sh39_1_l4.den) (K : KL) : Option Res := g d.1.2.2.1 d.2.2.1.2.1 (fun (y0 : List Int) => K (.exit 0) [.tv (.lf (.full 0))] [some ⟨false, [.seq (.int .u8) 0 y0]⟩, some ⟨false, [.seq (.int .u32) 0 d.2.2.1.2.1]⟩]) k d.1.2.2.2.1 d.2.1.2.1
noncomputable def G39_1_4 (F k : Nat) : LoopS := mkG sh39_1_l4 [5, 24, 25, 26] (outT [(.exit 0, [5])]) (fun d K => A39_1_l4 (f39_1_l4 F) k d K) []
noncomputable def LT39_1 (F : Nat) : Nat → Option LoopS := ltab [(4, G39_1_4 F F)]
theorem L39_1_l4g (F k : Nat) (c54_1 : Y54_1) (c55_1 : Y55_1)  (l4 : Y39_1_l4) (X4 : LoopS) (d : sh39_1_l4.den) (K : KL) : A39_1_l4 ((fun (v4 : Int) (v7 : List Int) (K0 : (List Int → Option Res)) (k : Nat) (v5 : Int) (v6 : List Int) => cond (decide (v5 < v4)) (cond (decide ((0 : Int) ≤ v5 ∧ v5 < ((v7.length : Nat) : Int))) (cond (decide (0 + v5.toNat < v7.length)) (c55_1 4 (IntKind.u64.wrap (v7.getD (0 + v5.toNat) 0)) v6 (fun x8 => l4 v4 v7 K0 k (IntKind.i64.wrap (v5 + 1)) x8) ) none) none) (K0 v6))) k d K = roundOf Tryd.prog (TB39_1 c54_1 c55_1) (xw []) 37 0 (ltab [(4, X4)]) (mkG sh39_1_l4 [5, 24, 25, 26] (outT [(.exit 0, [5])]) (fun d K => A39_1_l4 l4 k d K) []) b39_0 (encT sh39_1_l4.vs d.1) (encH sh39_1_l4.h d.2) K := by kernel_rfl
theorem L39_1_4 (F : Nat) : LoopOK Tryd.prog (T39_1 F) (xw []) 37 0 (LT39_1 F) (G39_1_4 F F) b39_0 :=
  loopOK_of (s := sh39_1_l4) (live := [5, 24, 25, 26]) (out := (outT [(.exit 0, [5])])) (mv := []) (fun k d K => A39_1_l4 (f39_1_l4 F) k d K) F (fun d K => by kernel_rfl)  (fun k d K => Eq.mp (by kernel_rfl) (L39_1_l4g F k (f54_1 F) (f55_1 F)  (f39_1_l4 F) (G39_1_4 F F) d K))
theorem E39_1g (F : Nat) (c54_1 : Y54_1) (c55_1 : Y55_1) (l4 : Y39_1_l4)  (d : sh39_1.den) (K : KF) : evBody Tryd.prog (TB39_1 c54_1 c55_1) (xw []) 37 0 (ltab [(4, mkG sh39_1_l4 [5, 24, 25, 26] (outT [(.exit 0, [5])]) (fun d K => A39_1_l4 l4 F d K) [])]) [] code39 Tryd.f39.results.toList (encT sh39_1.vs d.1) (encH sh39_1.h d.2) K = A39_1 (fun (a1 : Int) (a2 : Int) (a3 : Int) (a4 : Int) (a5 : ByteArray) (K0 : (ByteArray → Option Res)) => c55_1 8 a2 [] (fun x1 => c55_1 8 a3 x1 (fun x2 => c54_1 (toInts a5) (fun x3 => l4 3 [IntKind.u32.wrap a1, IntKind.u32.wrap a4, x3] (fun x9 => K0 (ofInts x9)) F 0 x2) ) ) ) d K := by kernel_rfl
theorem E39_1 (F : Nat) (d : sh39_1.den) (K : KF) : evBody Tryd.prog (T39_1 F) (xw []) 37 0 (LT39_1 F) [] code39 Tryd.f39.results.toList (encT sh39_1.vs d.1) (encH sh39_1.h d.2) K = A39_1 (f39_1 F) d K := Eq.mp (by kernel_rfl) (E39_1g F (f54_1 F) (f55_1 F) (f39_1_l4 F)  d K)
theorem S39_1_ok (F : Nat) (o : Summ) (ho : SoundFn Tryd.prog 39 o) : SoundFn Tryd.prog 39 (S39_1 F o) :=
  soundFn_of (fn := Tryd.f39) (c := code39) rfl rfl (by kernel_rfl) (tab_cons (S54_1_ok F _ (noS_sound enter54)) (tab_cons (S55_1_ok F _ (noS_sound enter55)) tab_nil)) (by kernel_rfl) (by kernel_rfl) ho (by rw [loops39]; exact (loopsOK_cons (by kernel_rfl) (L39_1_4 F) loopsOK_nil)) (by rw [scopes39]; exact scopesOK_nil) (by rw [ranges39]; exact rangesOK_nil) (E39_1 F)
end Go.Proofs.YtlgopekjjkdkiaaDoor.X
end

section
namespace Go.Proofs.YtlgopekjjkdkiaaDoor.X
open Go Go.Proofs.YtlgopekjjkdkiaaDoor.Ev Go.Proofs
set_option linter.unusedVariables false
set_option linter.unusedSectionVars false
/-! undo.Append -/
noncomputable def f16_1 {β : Type} (F : Nat) (a1 : Int) (a2 : Int) (a3 : Int) (a4 : Int) (a5 : Int) (a6 : Int) (a7 : Int) (a8 : Int) (a9 : Int) (a10 : Bool) (a11 : Int) (a12 : List ByteArray) (a13 : List (Int × ByteArray)) (K0 : Int → Int → Int → ByteArray → Int → Int → Bool → Int → List ByteArray → List (Int × ByteArray) → Option β) : Option β := f27_1 F a1 a2 a3 a4 (fun x1 => cond (!x1) (K0 0 0 0 ByteArray.empty 12 a9 a10 a11 a12 a13) (cond (decide (a5 < 0)) (K0 0 0 0 ByteArray.empty 11 a9 a10 a11 a12 a13) (cond (decide (a5 ≥ a4)) (K0 0 0 0 ByteArray.empty 11 a9 a10 a11 a12 a13) (f36_1 F a1 a2 a3 a4 a8 (fun x2 => cond (!x2) (K0 0 0 0 ByteArray.empty 3 a9 a10 a11 a12 a13) (f29_1 F a8 a9 a10 a11 a12 a13 (fun x3 x4 => cond (x4 != 0) (K0 0 0 0 ByteArray.empty x4 a9 a10 a11 a12 a13) (f37_1 F a1 a2 a3 a4 a5 (fun x5 x6 => f38_1 F x6 x3 a9 a10 a11 a12 a13 (fun x7 x8 x9 x10 x11 x12 => cond (x7 != 0) (K0 0 0 0 ByteArray.empty x7 x8 x9 x10 x11 x12) (f39_1 F a5 a6 a7 a8 x3 (fun x13 => f32_1 F 7 x13 (fun x14 x15 => cond (x15 != 0) (K0 0 0 0 ByteArray.empty x15 x8 x9 x10 x11 x12) (f38_1 F x5 x14 x8 x9 x10 x11 x12 (fun x16 x17 x18 x19 x20 x21 => cond (x16 != 0) (K0 0 0 0 ByteArray.empty x16 x17 x18 x19 x20 x21) (K0 a6 a7 a8 x3 0 x17 x18 x19 x20 x21)) )) ) )) ) )) )) )))) 
variable [FZ]
def sh16_1 : Sh := ⟨[.lf (.ptr 0 0), .agg [.int .i64, .int .i64, .int .i64, .int .i64], .lf (.int .i64), .lf (.int .u64), .lf (.int .u64), .lf (.int .i64)], [some ⟨some false, [.full 1, .full 2, .int .i64, .bool, .int .i64]⟩, some ⟨some false, [.seq .str 0]⟩, some ⟨some false, [.seq (.pair (.int .i64) .str) 0]⟩]⟩
abbrev Y16_1 := Int → Int → Int → Int → Int → Int → Int → Int → Int → Bool → Int → List ByteArray → List (Int × ByteArray) → (Int → Int → Int → ByteArray → Int → Int → Bool → Int → List ByteArray → List (Int × ByteArray) → Option Res) → Option Res
noncomputable def A16_1 (g : Y16_1) (d : sh16_1.den) (K : KF) : Option Res := g d.1.2.1.1 d.1.2.1.2.1 d.1.2.1.2.2.1 d.1.2.1.2.2.2.1 d.1.2.2.1 d.1.2.2.2.1 d.1.2.2.2.2.1 d.1.2.2.2.2.2.1 d.2.1.2.2.2.1 d.2.1.2.2.2.2.1 d.2.1.2.2.2.2.2.1 d.2.2.1.2.1 d.2.2.2.1.2.1 (fun (y0 : Int) (y1 : Int) (y2 : Int) (y3 : ByteArray) (y4 : Int) (y5 : Int) (y6 : Bool) (y7 : Int) (y8 : List ByteArray) (y9 : List (Int × ByteArray)) => K [.agg [.int .u64 y0, .int .u64 y1, .int .i64 y2, .str y3], .lf (.int .i64 y4)] [some ⟨false, [.full 1, .full 3, .int .i64 y5, .bool y6, .int .i64 y7]⟩, some ⟨false, [.seq .str 0 y8]⟩, none, some ⟨false, [.seq (.pair (.int .i64) .str) 0 y9]⟩])
noncomputable def S16_1 (F : Nat) (o : Summ) : Summ := mkS sh16_1 (fun d K => A16_1 (f16_1 F) d K) o
noncomputable def code16 : Code := bodyOf Tryd.f16
theorem scopes16 : scopesOf code16 = [] := by kernel_rfl
theorem ranges16 : rangesOf code16 = [] := by kernel_rfl
theorem loops16 : loopsOf code16 = [] := by kernel_rfl
theorem enter16 : ∀ args w, (callFunc 16 args).run Tryd.prog w = .ok (.enter 16 args) w := enter_of (fn := Tryd.f16) (by kernel_rfl) (by kernel_rfl) (by kernel_rfl)
noncomputable def T16_1 (F : Nat) : FuncId → Option Summ := tab [(27, (S27_1 F noS)), (29, (S29_1 F noS)), (32, (S32_1 F noS)), (36, (S36_1 F noS)), (37, (S37_1 F noS)), (38, (S38_1 F noS)), (39, (S39_1 F noS))]
noncomputable def TB16_1 (c27_1 : Y27_1) (c29_1 : Y29_1) (c32_1 : Y32_1) (c36_1 : Y36_1) (c37_1 : Y37_1) (c38_1 : Y38_1) (c39_1 : Y39_1) : FuncId → Option Summ := tab [(27, (mkS sh27_1 (fun d K => A27_1 c27_1 d K) noS)), (29, (mkS sh29_1 (fun d K => A29_1 c29_1 d K) noS)), (32, (mkS sh32_1 (fun d K => A32_1 c32_1 d K) noS)), (36, (mkS sh36_1 (fun d K => A36_1 c36_1 d K) noS)), (37, (mkS sh37_1 (fun d K => A37_1 c37_1 d K) noS)), (38, (mkS sh38_1 (fun d K => A38_1 c38_1 d K) noS)), (39, (mkS sh39_1 (fun d K => A39_1 c39_1 d K) noS))]
noncomputable def LT16_1 (F : Nat) : Nat → Option LoopS := ltab []
theorem E16_1g (F : Nat) (c27_1 : Y27_1) (c29_1 : Y29_1) (c32_1 : Y32_1) (c36_1 : Y36_1) (c37_1 : Y37_1) (c38_1 : Y38_1) (c39_1 : Y39_1)   (d : sh16_1.den) (K : KF) : evBody Tryd.prog (TB16_1 c27_1 c29_1 c32_1 c36_1 c37_1 c38_1 c39_1) (xw []) 92 3 (ltab []) [2] code16 Tryd.f16.results.toList (encT sh16_1.vs d.1) (encH sh16_1.h d.2) K = A16_1 (fun (a1 : Int) (a2 : Int) (a3 : Int) (a4 : Int) (a5 : Int) (a6 : Int) (a7 : Int) (a8 : Int) (a9 : Int) (a10 : Bool) (a11 : Int) (a12 : List ByteArray) (a13 : List (Int × ByteArray)) (K0 : (Int → Int → Int → ByteArray → Int → Int → Bool → Int → List ByteArray → List (Int × ByteArray) → Option Res)) => c27_1 a1 a2 a3 a4 (fun x1 => cond (!x1) (K0 0 0 0 ByteArray.empty 12 a9 a10 a11 a12 a13) (cond (decide (a5 < 0)) (K0 0 0 0 ByteArray.empty 11 a9 a10 a11 a12 a13) (cond (decide (a5 ≥ a4)) (K0 0 0 0 ByteArray.empty 11 a9 a10 a11 a12 a13) (c36_1 a1 a2 a3 a4 a8 (fun x2 => cond (!x2) (K0 0 0 0 ByteArray.empty 3 a9 a10 a11 a12 a13) (c29_1 a8 a9 a10 a11 a12 a13 (fun x3 x4 => cond (x4 != 0) (K0 0 0 0 ByteArray.empty x4 a9 a10 a11 a12 a13) (c37_1 a1 a2 a3 a4 a5 (fun x5 x6 => c38_1 x6 x3 a9 a10 a11 a12 a13 (fun x7 x8 x9 x10 x11 x12 => cond (x7 != 0) (K0 0 0 0 ByteArray.empty x7 x8 x9 x10 x11 x12) (c39_1 a5 a6 a7 a8 x3 (fun x13 => c32_1 7 x13 (fun x14 x15 => cond (x15 != 0) (K0 0 0 0 ByteArray.empty x15 x8 x9 x10 x11 x12) (c38_1 x5 x14 x8 x9 x10 x11 x12 (fun x16 x17 x18 x19 x20 x21 => cond (x16 != 0) (K0 0 0 0 ByteArray.empty x16 x17 x18 x19 x20 x21) (K0 a6 a7 a8 x3 0 x17 x18 x19 x20 x21)) )) ) )) ) )) )) )))) ) d K := by kernel_rfl
theorem E16_1 (F : Nat) (d : sh16_1.den) (K : KF) : evBody Tryd.prog (T16_1 F) (xw []) 92 3 (LT16_1 F) [2] code16 Tryd.f16.results.toList (encT sh16_1.vs d.1) (encH sh16_1.h d.2) K = A16_1 (f16_1 F) d K := Eq.mp (by kernel_rfl) (E16_1g F (f27_1 F) (f29_1 F) (f32_1 F) (f36_1 F) (f37_1 F) (f38_1 F) (f39_1 F)   d K)
theorem S16_1_ok (F : Nat) (o : Summ) (ho : SoundFn Tryd.prog 16 o) : SoundFn Tryd.prog 16 (S16_1 F o) :=
  soundFn_of (fn := Tryd.f16) (c := code16) rfl rfl (by kernel_rfl) (tab_cons (S27_1_ok F _ (noS_sound enter27)) (tab_cons (S29_1_ok F _ (noS_sound enter29)) (tab_cons (S32_1_ok F _ (noS_sound enter32)) (tab_cons (S36_1_ok F _ (noS_sound enter36)) (tab_cons (S37_1_ok F _ (noS_sound enter37)) (tab_cons (S38_1_ok F _ (noS_sound enter38)) (tab_cons (S39_1_ok F _ (noS_sound enter39)) tab_nil))))))) (by kernel_rfl) (by kernel_rfl) ho (by rw [loops16]; exact loopsOK_nil) (by rw [scopes16]; exact scopesOK_nil) (by rw [ranges16]; exact rangesOK_nil) (E16_1 F)
end Go.Proofs.YtlgopekjjkdkiaaDoor.X
end

section
namespace Go.Proofs.YtlgopekjjkdkiaaDoor.X
open Go Go.Proofs.YtlgopekjjkdkiaaDoor.Ev Go.Proofs
set_option linter.unusedVariables false
set_option linter.unusedSectionVars false
/-! disk.Disk).Read -/
noncomputable def f29_6206 {β : Type} (F : Nat) (a1 : Int) (K0 : Option β) : Option β := K0
variable [FZ]
def sh29_6206 : Sh := ⟨[.lf (.nilp), .lf (.int .i64)], []⟩
abbrev Y29_6206 := Int → (Option Res) → Option Res
noncomputable def A29_6206 (g : Y29_6206) (d : sh29_6206.den) (K : KF) : Option Res := g d.1.2.1 (K [.lf (.str ByteArray.empty), .lf (.int .i64 1)] [])
noncomputable def S29_6206 (F : Nat) (o : Summ) : Summ := mkS sh29_6206 (fun d K => A29_6206 (f29_6206 F) d K) o
noncomputable def T29_6206 (F : Nat) : FuncId → Option Summ := tab []
noncomputable def TB29_6206  : FuncId → Option Summ := tab []
noncomputable def LT29_6206 (F : Nat) : Nat → Option LoopS := ltab []
theorem E29_6206g (F : Nat)    (d : sh29_6206.den) (K : KF) : evBody Tryd.prog TB29_6206 (xw []) 34 0 (ltab []) [] code29 Tryd.f29.results.toList (encT sh29_6206.vs d.1) (encH sh29_6206.h d.2) K = A29_6206 (fun (a1 : Int) (K0 : (Option Res)) => K0) d K := by kernel_rfl
theorem E29_6206 (F : Nat) (d : sh29_6206.den) (K : KF) : evBody Tryd.prog (T29_6206 F) (xw []) 34 0 (LT29_6206 F) [] code29 Tryd.f29.results.toList (encT sh29_6206.vs d.1) (encH sh29_6206.h d.2) K = A29_6206 (f29_6206 F) d K := Eq.mp (by kernel_rfl) (E29_6206g F    d K)
theorem S29_6206_ok (F : Nat) (o : Summ) (ho : SoundFn Tryd.prog 29 o) : SoundFn Tryd.prog 29 (S29_6206 F o) :=
  soundFn_of (fn := Tryd.f29) (c := code29) rfl rfl (by kernel_rfl) tab_nil (by kernel_rfl) (by kernel_rfl) ho (by rw [loops29]; exact loopsOK_nil) (by rw [scopes29]; exact scopesOK_nil) (by rw [ranges29]; exact (rangesOK_skip (by kernel_rfl) rangesOK_nil)) (E29_6206 F)
end Go.Proofs.YtlgopekjjkdkiaaDoor.X
end

section
namespace Go.Proofs.YtlgopekjjkdkiaaDoor.X
open Go Go.Proofs.YtlgopekjjkdkiaaDoor.Ev Go.Proofs
set_option linter.unusedVariables false
set_option linter.unusedSectionVars false
/-! undo.Append -/
noncomputable def f16_4108 {β : Type} (F : Nat) (a1 : Int) (a2 : Int) (a3 : Int) (a4 : Int) (a5 : Int) (a6 : Int) (a7 : Int) (a8 : Int) (K0 : Int → Option β) : Option β := f27_1 F a1 a2 a3 a4 (fun x1 => cond (!x1) (K0 12) (cond (decide (a5 < 0)) (K0 11) (cond (decide (a5 ≥ a4)) (K0 11) (f36_1 F a1 a2 a3 a4 a8 (fun x2 => cond (!x2) (K0 3) (f29_6206 F a8 (K0 1) )) )))) 
variable [FZ]
def sh16_4108 : Sh := ⟨[.lf (.nilp), .agg [.int .i64, .int .i64, .int .i64, .int .i64], .lf (.int .i64), .lf (.int .u64), .lf (.int .u64), .lf (.int .i64)], []⟩
abbrev Y16_4108 := Int → Int → Int → Int → Int → Int → Int → Int → (Int → Option Res) → Option Res
noncomputable def A16_4108 (g : Y16_4108) (d : sh16_4108.den) (K : KF) : Option Res := g d.1.2.1.1 d.1.2.1.2.1 d.1.2.1.2.2.1 d.1.2.1.2.2.2.1 d.1.2.2.1 d.1.2.2.2.1 d.1.2.2.2.2.1 d.1.2.2.2.2.2.1 (fun (y4 : Int) => K [.agg [.int .u64 0, .int .u64 0, .int .i64 0, .str ByteArray.empty], .lf (.int .i64 y4)] [])
noncomputable def S16_4108 (F : Nat) (o : Summ) : Summ := mkS sh16_4108 (fun d K => A16_4108 (f16_4108 F) d K) o
noncomputable def T16_4108 (F : Nat) : FuncId → Option Summ := tab [(27, (S27_1 F noS)), (29, (S29_6206 F noS)), (36, (S36_1 F noS))]
noncomputable def TB16_4108 (c27_1 : Y27_1) (c29_6206 : Y29_6206) (c36_1 : Y36_1) : FuncId → Option Summ := tab [(27, (mkS sh27_1 (fun d K => A27_1 c27_1 d K) noS)), (29, (mkS sh29_6206 (fun d K => A29_6206 c29_6206 d K) noS)), (36, (mkS sh36_1 (fun d K => A36_1 c36_1 d K) noS))]
noncomputable def LT16_4108 (F : Nat) : Nat → Option LoopS := ltab []
theorem E16_4108g (F : Nat) (c27_1 : Y27_1) (c29_6206 : Y29_6206) (c36_1 : Y36_1)   (d : sh16_4108.den) (K : KF) : evBody Tryd.prog (TB16_4108 c27_1 c29_6206 c36_1) (xw []) 92 0 (ltab []) [] code16 Tryd.f16.results.toList (encT sh16_4108.vs d.1) (encH sh16_4108.h d.2) K = A16_4108 (fun (a1 : Int) (a2 : Int) (a3 : Int) (a4 : Int) (a5 : Int) (a6 : Int) (a7 : Int) (a8 : Int) (K0 : (Int → Option Res)) => c27_1 a1 a2 a3 a4 (fun x1 => cond (!x1) (K0 12) (cond (decide (a5 < 0)) (K0 11) (cond (decide (a5 ≥ a4)) (K0 11) (c36_1 a1 a2 a3 a4 a8 (fun x2 => cond (!x2) (K0 3) (c29_6206 a8 (K0 1) )) )))) ) d K := by kernel_rfl
theorem E16_4108 (F : Nat) (d : sh16_4108.den) (K : KF) : evBody Tryd.prog (T16_4108 F) (xw []) 92 0 (LT16_4108 F) [] code16 Tryd.f16.results.toList (encT sh16_4108.vs d.1) (encH sh16_4108.h d.2) K = A16_4108 (f16_4108 F) d K := Eq.mp (by kernel_rfl) (E16_4108g F (f27_1 F) (f29_6206 F) (f36_1 F)   d K)
theorem S16_4108_ok (F : Nat) (o : Summ) (ho : SoundFn Tryd.prog 16 o) : SoundFn Tryd.prog 16 (S16_4108 F o) :=
  soundFn_of (fn := Tryd.f16) (c := code16) rfl rfl (by kernel_rfl) (tab_cons (S27_1_ok F _ (noS_sound enter27)) (tab_cons (S29_6206_ok F _ (noS_sound enter29)) (tab_cons (S36_1_ok F _ (noS_sound enter36)) tab_nil))) (by kernel_rfl) (by kernel_rfl) ho (by rw [loops16]; exact loopsOK_nil) (by rw [scopes16]; exact scopesOK_nil) (by rw [ranges16]; exact rangesOK_nil) (E16_4108 F)
end Go.Proofs.YtlgopekjjkdkiaaDoor.X
end

section
namespace Go.Proofs.YtlgopekjjkdkiaaDoor.X
open Go Go.Proofs.YtlgopekjjkdkiaaDoor.Ev Go.Proofs
set_option linter.unusedVariables false
set_option linter.unusedSectionVars false
/-! undo.entries -/
noncomputable def f40_1 {β : Type} (F : Nat) (a1 : Int) (a2 : Int) (a3 : Int) (a4 : Int) (a5 : Int) (a6 : Int) (a7 : Bool) (a8 : Int) (a9 : List ByteArray) (a10 : List (Int × ByteArray)) (K0 : Option β) : Option β := K0
variable [FZ]
def sh40_1 : Sh := ⟨[.lf (.ptr 0 0), .agg [.int .i64, .int .i64, .int .i64, .int .i64], .lf (.int .u64)], [some ⟨none, [.full 1, .full 2, .int .i64, .bool, .int .i64]⟩, some ⟨none, [.seq .str 0]⟩, some ⟨none, [.seq (.pair (.int .i64) .str) 0]⟩]⟩
abbrev Y40_1 := Int → Int → Int → Int → Int → Int → Bool → Int → List ByteArray → List (Int × ByteArray) → (Option Res) → Option Res
noncomputable def A40_1 (g : Y40_1) (d : sh40_1.den) (K : KF) : Option Res := g d.1.2.1.1 d.1.2.1.2.1 d.1.2.1.2.2.1 d.1.2.1.2.2.2.1 d.1.2.2.1 d.2.1.2.2.2.1 d.2.1.2.2.2.2.1 d.2.1.2.2.2.2.2.1 d.2.2.1.2.1 d.2.2.2.1.2.1 (K [.lf (.clo 59 [3, 4, 5])] [some ⟨d.2.1.1, [.full 1, .full 2, .int .i64 d.2.1.2.2.2.1, .bool d.2.1.2.2.2.2.1, .int .i64 d.2.1.2.2.2.2.2.1]⟩, some ⟨d.2.2.1.1, [.seq .str 0 d.2.2.1.2.1]⟩, some ⟨d.2.2.2.1.1, [.seq (.pair (.int .i64) .str) 0 d.2.2.2.1.2.1]⟩, some ⟨false, [.int .i64 d.1.2.1.1, .int .i64 d.1.2.1.2.1, .int .i64 d.1.2.1.2.2.1, .int .i64 d.1.2.1.2.2.2.1]⟩, some ⟨false, [.ptr 0 0]⟩, some ⟨false, [.int .u64 d.1.2.2.1]⟩])
noncomputable def S40_1 (F : Nat) (o : Summ) : Summ := mkS sh40_1 (fun d K => A40_1 (f40_1 F) d K) o
noncomputable def code40 : Code := bodyOf Tryd.f40
theorem scopes40 : scopesOf code40 = [] := by kernel_rfl
theorem ranges40 : rangesOf code40 = [] := by kernel_rfl
theorem loops40 : loopsOf code40 = [] := by kernel_rfl
theorem enter40 : ∀ args w, (callFunc 40 args).run Tryd.prog w = .ok (.enter 40 args) w := enter_of (fn := Tryd.f40) (by kernel_rfl) (by kernel_rfl) (by kernel_rfl)
noncomputable def T40_1 (F : Nat) : FuncId → Option Summ := tab []
noncomputable def TB40_1  : FuncId → Option Summ := tab []
noncomputable def LT40_1 (F : Nat) : Nat → Option LoopS := ltab []
theorem E40_1g (F : Nat)    (d : sh40_1.den) (K : KF) : evBody Tryd.prog TB40_1 (xw []) 8 3 (ltab []) [] code40 Tryd.f40.results.toList (encT sh40_1.vs d.1) (encH sh40_1.h d.2) K = A40_1 (fun (a1 : Int) (a2 : Int) (a3 : Int) (a4 : Int) (a5 : Int) (a6 : Int) (a7 : Bool) (a8 : Int) (a9 : List ByteArray) (a10 : List (Int × ByteArray)) (K0 : (Option Res)) => K0) d K := by kernel_rfl
theorem E40_1 (F : Nat) (d : sh40_1.den) (K : KF) : evBody Tryd.prog (T40_1 F) (xw []) 8 3 (LT40_1 F) [] code40 Tryd.f40.results.toList (encT sh40_1.vs d.1) (encH sh40_1.h d.2) K = A40_1 (f40_1 F) d K := Eq.mp (by kernel_rfl) (E40_1g F    d K)
theorem S40_1_ok (F : Nat) (o : Summ) (ho : SoundFn Tryd.prog 40 o) : SoundFn Tryd.prog 40 (S40_1 F o) :=
  soundFn_of (fn := Tryd.f40) (c := code40) rfl rfl (by kernel_rfl) tab_nil (by kernel_rfl) (by kernel_rfl) ho (by rw [loops40]; exact loopsOK_nil) (by rw [scopes40]; exact scopesOK_nil) (by rw [ranges40]; exact rangesOK_nil) (E40_1 F)
end Go.Proofs.YtlgopekjjkdkiaaDoor.X
end

section
/- strings.Trim: the contract of the kit, at this program. -/
namespace Go.Proofs.YtlgopekjjkdkiaaDoor.X
open Go Go.Proofs.YtlgopekjjkdkiaaDoor.Ev Go.Proofs Go.Shelf Go.RowKit
set_option linter.unusedVariables false
def trmRen : Go.Shelf.Ren := ⟨fun x => match x with | 160 => 81 | 232 => 86 | 231 => 85 | 227 => 87 | 234 => 89 | 233 => 88 | 236 => 91 | 235 => 90 | 228 => 92 | 271 => 95 | 151 => 94 | 197 => 93 | 120 => 98 | 152 => 97 | 260 => 96 | 137 => 99 | 119 => 100 | 224 => 101 | 225 => 102 | 217 => 103 | 266 => 104 | n => n, fun x => match x with | 9 => 9 | 4 => 4 | 3 => 3 | 5 => 5 | 117 => 139 | 116 => 138 | 0 => 0 | 124 => 142 | 21 => 21 | 105 => 144 | 46 => 82 | 119 => 148 | 139 => 151 | 138 => 150 | n => n, fun x => match x with | 3 => 1 | 4 => 2 | n => n⟩
theorem trmLays : Lays.n160 Tryd.prog trmRen where
  mixed := by kernel_rfl
  f119 := Tryd.func100.trans (congrArg some (by kernel_rfl))
  f120 := Tryd.func98.trans (congrArg some (by kernel_rfl))
  f137 := Tryd.func99.trans (congrArg some (by kernel_rfl))
  f151 := Tryd.func94.trans (congrArg some (by kernel_rfl))
  f152 := Tryd.func97.trans (congrArg some (by kernel_rfl))
  f160 := Tryd.func81.trans (congrArg some (by kernel_rfl))
  f197 := Tryd.func93.trans (congrArg some (by kernel_rfl))
  f217 := Tryd.func103.trans (congrArg some (by kernel_rfl))
  f224 := Tryd.func101.trans (congrArg some (by kernel_rfl))
  f225 := Tryd.func102.trans (congrArg some (by kernel_rfl))
  f227 := Tryd.func87.trans (congrArg some (by kernel_rfl))
  f228 := Tryd.func92.trans (congrArg some (by kernel_rfl))
  f231 := Tryd.func85.trans (congrArg some (by kernel_rfl))
  f232 := Tryd.func86.trans (congrArg some (by kernel_rfl))
  f233 := Tryd.func88.trans (congrArg some (by kernel_rfl))
  f234 := Tryd.func89.trans (congrArg some (by kernel_rfl))
  f235 := Tryd.func90.trans (congrArg some (by kernel_rfl))
  f236 := Tryd.func91.trans (congrArg some (by kernel_rfl))
  f260 := Tryd.func96.trans (congrArg some (by kernel_rfl))
  f266 := Tryd.func104.trans (congrArg some (by kernel_rfl))
  f271 := Tryd.func95.trans (congrArg some (by kernel_rfl))
  t0 := Tryd.underlying0
  a0 := Tryd.isAgg0
  z0 := Tryd.sizeOf0
  v0 := Tryd.zeroValue0
  t3 := Tryd.underlying3
  a3 := Tryd.isAgg3
  z3 := Tryd.sizeOf3
  v3 := Tryd.zeroValue3
  t4 := Tryd.underlying4
  a4 := Tryd.isAgg4
  z4 := Tryd.sizeOf4
  v4 := Tryd.zeroValue4
  t5 := Tryd.underlying5
  a5 := Tryd.isAgg5
  z5 := Tryd.sizeOf5
  v5 := Tryd.zeroValue5
  t9 := Tryd.underlying9
  a9 := Tryd.isAgg9
  z9 := Tryd.sizeOf9
  v9 := Tryd.zeroValue9
  t21 := Tryd.underlying21
  a21 := Tryd.isAgg21
  z21 := Tryd.sizeOf21
  v21 := Tryd.zeroValue21
  t46 := Tryd.underlying82
  a46 := Tryd.isAgg82
  z46 := Tryd.sizeOf82
  v46 := Tryd.zeroValue82
  t105 := Tryd.underlying144
  a105 := Tryd.isAgg144
  z105 := Tryd.sizeOf144
  v105 := Tryd.zeroValue144
  t116 := Tryd.underlying138
  a116 := Tryd.isAgg138
  z116 := Tryd.sizeOf138
  t117 := Tryd.underlying139
  a117 := Tryd.isAgg139
  z117 := Tryd.sizeOf139
  v117 := Tryd.zeroValue139
  t119 := Tryd.underlying148
  a119 := Tryd.isAgg148
  z119 := Tryd.sizeOf148
  t124 := Tryd.underlying142
  a124 := Tryd.isAgg142
  z124 := Tryd.sizeOf142
  v124 := Tryd.zeroValue142
  t138 := Tryd.underlying150
  a138 := Tryd.isAgg150
  z138 := Tryd.sizeOf150
  v138 := Tryd.zeroValue150
  t139 := Tryd.underlying151
  a139 := Tryd.isAgg151
  z139 := Tryd.sizeOf151
  v139 := Tryd.zeroValue151
  g3 := by kernel_rfl
  g4 := by kernel_rfl
end Go.Proofs.YtlgopekjjkdkiaaDoor.X
end

section
/- strings.Trim: its contract, as a typed function. -/
namespace Go.Proofs.YtlgopekjjkdkiaaDoor.X
open Go Go.Proofs.YtlgopekjjkdkiaaDoor.Ev Go.Proofs
set_option linter.unusedVariables false
set_option linter.unusedSimpArgs false
set_option linter.unusedSectionVars false
variable [FZ]

/-- A string without the bytes of a set at its ends. -/
noncomputable def trm (s cs : ByteArray) : ByteArray := ⟨(Lib.trimS s.data.toList cs.data.toList).toArray⟩
noncomputable def f81_1 {β : Type} (F : Nat) (a1 : ByteArray) (a2 : ByteArray) (K0 : ByteArray → Option β) : Option β :=
  cond (decide (a1.size ≤ 9223372036854775807 ∧ a2.size < 4294967281 ∧ a2.data.toList.all (fun b => decide (b.toNat < 128)) = true)) (K0 (trm a1 a2)) none
def sh81_1 : Sh := ⟨[.lf (.str), .lf (.str)], []⟩
noncomputable def S81_1 (F : Nat) (o : Summ) : Summ := mkS sh81_1 (fun d K => f81_1 F d.1.1 d.1.2.1 (fun (y0 : ByteArray) => K [.lf (.str y0)] [])) o
theorem enter81 : ∀ args w, (callFunc 81 args).run Tryd.prog w = .ok (.enter 81 args) w := enter_of (fn := Tryd.f81) (by kernel_rfl) (by kernel_rfl) (by kernel_rfl)
theorem trmNum : trmRen.f 160 = 81 := by kernel_rfl

theorem trmB {s cs : ByteArray} (h : s.size ≤ 9223372036854775807 ∧ cs.size < 4294967281 ∧ cs.data.toList.all (fun b => decide (b.toNat < 128)) = true) {K : KF} {r : Res} (he : K [.lf (.str (trm s cs))] [] = some r) :
    Contract Tryd.prog 81 [.lf (.str s), .lf (.str cs)] [] K r := by
  intro G m w cvs hw hgd hgh hi hx
  obtain ⟨v1, v2, rfl, h1, h2⟩ : ∃ v1 v2, cvs = [v1, v2] ∧ v1 = .string s ∧ v2 = .string cs := by
    match cvs, hx with
    | [v1, v2], ⟨h1, h2, _⟩ => exact ⟨v1, v2, rfl, h1, h2⟩
  subst h1 h2
  have := Any.strings_Trim_laid trmLays (by kernel_rfl) s cs w h.1 h.2.1 (ascii_of_all h.2.2)
  rw [trmNum] at this
  refine this.mono fun e w' ⟨h1, h2⟩ => ?_
  have hext : Ext w w' := ⟨⟨h2.os, h2.tape, h2.output⟩, h2.size, h2.block⟩
  exact ⟨_, _, he, _, [], h1, rfl, by rw [List.append_nil]; exact hi.ext hext⟩

theorem S81_1_ok (F : Nat) (o : Summ) (ho : SoundFn Tryd.prog 81 o) : SoundFn Tryd.prog 81 (S81_1 F o) := by
  refine ⟨ho.enter, fun vs h K r he => ?_⟩
  unfold S81_1 mkS at he
  split at he
  rotate_left
  · exact ho.ok vs h K r he
  rename_i dv dh ha hb'
  have e1 := decT_enc _ _ _ ha
  have e2 := decH_enc _ _ _ hb'
  obtain ⟨s, c, _⟩ := dv
  have e1 : vs = [.lf (.str s), .lf (.str c)] := e1
  have e2 : h = [] := e2
  subst e1
  subst e2
  have he : f81_1 F s c (fun (y0 : ByteArray) => K [.lf (.str y0)] []) = some r := he
  unfold f81_1 at he
  obtain ⟨h1, he⟩ := dec_of he
  exact trmB h1 he

end Go.Proofs.YtlgopekjjkdkiaaDoor.X
end

section
namespace Go.Proofs.YtlgopekjjkdkiaaDoor.X
open Go Go.Proofs.YtlgopekjjkdkiaaDoor.Ev Go.Proofs
set_option linter.unusedVariables false
set_option linter.unusedSectionVars false
/-! rec.Kind -/
noncomputable def f75_1 {β : Type} (F : Nat) (a1 : ByteArray) (K0 : Int → Int → Option β) : Option β := f65_1 F a1 (fun x1 => cond (!x1) (K0 0 4) (cond (decide ((0 : Int) ≤ (60 : Int) ∧ (60 : Int) ≤ (a1.size : Int) ∧ (a1.size : Int) ≤ (a1.size : Int))) (f53_1 F a1 (fun x2 => cond (!(x2.toList == (a1.extract 60 ((a1.size : Int).toNat)).toList)) (K0 0 9) (cond (decide ((0 : Int) ≤ (0 : Int) ∧ (0 : Int) < (a1.size : Int))) (cond (decide ((0 : Int) ≤ (1 : Int) ∧ (1 : Int) < (a1.size : Int))) (cond (decide (IntKind.i64.wrap ((a1.data.getD 0 0).toNat : Int) < 1)) (K0 0 6) (cond (decide (IntKind.i64.wrap ((a1.data.getD 0 0).toNat : Int) > 8)) (K0 0 6) (cond (decide (IntKind.i64.wrap ((a1.data.getD 1 0).toNat : Int) > 58)) (K0 0 6) (cond (decide ((0 : Int) ≤ IntKind.i64.wrap (2 + (IntKind.i64.wrap ((a1.data.getD 1 0).toNat : Int))) ∧ IntKind.i64.wrap (2 + (IntKind.i64.wrap ((a1.data.getD 1 0).toNat : Int))) ≤ (60 : Int) ∧ (60 : Int) ≤ (a1.size : Int))) (f81_1 F (a1.extract ((IntKind.i64.wrap (2 + (IntKind.i64.wrap ((a1.data.getD 1 0).toNat : Int)))).toNat) 60) (⟨#[0]⟩ : ByteArray) (fun x3 => cond (!(x3.toList == ByteArray.empty.toList)) (K0 0 6) (K0 (IntKind.i64.wrap ((a1.data.getD 0 0).toNat : Int)) 0)) ) none)))) none) none)) ) none)) 
variable [FZ]
def sh75_1 : Sh := ⟨[.lf (.str)], []⟩
abbrev Y75_1 := ByteArray → (Int → Int → Option Res) → Option Res
noncomputable def A75_1 (g : Y75_1) (d : sh75_1.den) (K : KF) : Option Res := g d.1.1 (fun (y0 : Int) (y1 : Int) => K [.lf (.int .i64 y0), .lf (.int .i64 y1)] [])
noncomputable def S75_1 (F : Nat) (o : Summ) : Summ := mkS sh75_1 (fun d K => A75_1 (f75_1 F) d K) o
noncomputable def code75 : Code := bodyOf Tryd.f75
theorem scopes75 : scopesOf code75 = [] := by kernel_rfl
theorem ranges75 : rangesOf code75 = [] := by kernel_rfl
theorem loops75 : loopsOf code75 = [] := by kernel_rfl
theorem enter75 : ∀ args w, (callFunc 75 args).run Tryd.prog w = .ok (.enter 75 args) w := enter_of (fn := Tryd.f75) (by kernel_rfl) (by kernel_rfl) (by kernel_rfl)
noncomputable def T75_1 (F : Nat) : FuncId → Option Summ := tab [(53, (S53_1 F noS)), (65, (S65_1 F noS)), (81, (S81_1 F noS))]
noncomputable def TB75_1 (c53_1 : Y53_1) (c65_1 : Y65_1) (c81_1 : ByteArray → ByteArray → (ByteArray → Option Res) → Option Res) : FuncId → Option Summ := tab [(53, (mkS sh53_1 (fun d K => A53_1 c53_1 d K) noS)), (65, (mkS sh65_1 (fun d K => A65_1 c65_1 d K) noS)), (81, (mkS sh81_1 (fun d K => c81_1 d.1.1 d.1.2.1 (fun (y0 : ByteArray) => K [.lf (.str y0)] [])) noS))]
noncomputable def LT75_1 (F : Nat) : Nat → Option LoopS := ltab []
theorem E75_1g (F : Nat) (c53_1 : Y53_1) (c65_1 : Y65_1) (c81_1 : ByteArray → ByteArray → (ByteArray → Option Res) → Option Res)   (d : sh75_1.den) (K : KF) : evBody Tryd.prog (TB75_1 c53_1 c65_1 c81_1) (xw []) 41 0 (ltab []) [] code75 Tryd.f75.results.toList (encT sh75_1.vs d.1) (encH sh75_1.h d.2) K = A75_1 (fun (a1 : ByteArray) (K0 : (Int → Int → Option Res)) => c65_1 a1 (fun x1 => cond (!x1) (K0 0 4) (cond (decide ((0 : Int) ≤ (60 : Int) ∧ (60 : Int) ≤ (a1.size : Int) ∧ (a1.size : Int) ≤ (a1.size : Int))) (c53_1 a1 (fun x2 => cond (!(x2.toList == (a1.extract 60 ((a1.size : Int).toNat)).toList)) (K0 0 9) (cond (decide ((0 : Int) ≤ (0 : Int) ∧ (0 : Int) < (a1.size : Int))) (cond (decide ((0 : Int) ≤ (1 : Int) ∧ (1 : Int) < (a1.size : Int))) (cond (decide (IntKind.i64.wrap ((a1.data.getD 0 0).toNat : Int) < 1)) (K0 0 6) (cond (decide (IntKind.i64.wrap ((a1.data.getD 0 0).toNat : Int) > 8)) (K0 0 6) (cond (decide (IntKind.i64.wrap ((a1.data.getD 1 0).toNat : Int) > 58)) (K0 0 6) (cond (decide ((0 : Int) ≤ IntKind.i64.wrap (2 + (IntKind.i64.wrap ((a1.data.getD 1 0).toNat : Int))) ∧ IntKind.i64.wrap (2 + (IntKind.i64.wrap ((a1.data.getD 1 0).toNat : Int))) ≤ (60 : Int) ∧ (60 : Int) ≤ (a1.size : Int))) (c81_1 (a1.extract ((IntKind.i64.wrap (2 + (IntKind.i64.wrap ((a1.data.getD 1 0).toNat : Int)))).toNat) 60) (⟨#[0]⟩ : ByteArray) (fun x3 => cond (!(x3.toList == ByteArray.empty.toList)) (K0 0 6) (K0 (IntKind.i64.wrap ((a1.data.getD 0 0).toNat : Int)) 0)) ) none)))) none) none)) ) none)) ) d K := by kernel_rfl
theorem E75_1 (F : Nat) (d : sh75_1.den) (K : KF) : evBody Tryd.prog (T75_1 F) (xw []) 41 0 (LT75_1 F) [] code75 Tryd.f75.results.toList (encT sh75_1.vs d.1) (encH sh75_1.h d.2) K = A75_1 (f75_1 F) d K := Eq.mp (by kernel_rfl) (E75_1g F (f53_1 F) (f65_1 F) (f81_1 F)   d K)
theorem S75_1_ok (F : Nat) (o : Summ) (ho : SoundFn Tryd.prog 75 o) : SoundFn Tryd.prog 75 (S75_1 F o) :=
  soundFn_of (fn := Tryd.f75) (c := code75) rfl rfl (by kernel_rfl) (tab_cons (S53_1_ok F _ (noS_sound enter53)) (tab_cons (S65_1_ok F _ (noS_sound enter65)) (tab_cons (S81_1_ok F _ (noS_sound enter81)) tab_nil))) (by kernel_rfl) (by kernel_rfl) ho (by rw [loops75]; exact loopsOK_nil) (by rw [scopes75]; exact scopesOK_nil) (by rw [ranges75]; exact rangesOK_nil) (E75_1 F)
end Go.Proofs.YtlgopekjjkdkiaaDoor.X
end

section
namespace Go.Proofs.YtlgopekjjkdkiaaDoor.X
open Go Go.Proofs.YtlgopekjjkdkiaaDoor.Ev Go.Proofs
set_option linter.unusedVariables false
set_option linter.unusedSectionVars false
/-! rec.Open -/
noncomputable def f56_1 {β : Type} (F : Nat) (a1 : Int) (a2 : ByteArray) (K0 : ByteArray → Int → Option β) : Option β := f75_1 F a2 (fun x1 x2 => cond (x2 != 0) (K0 ByteArray.empty x2) (cond (x1 != a1) (K0 ByteArray.empty 22) (cond (decide ((0 : Int) ≤ (1 : Int) ∧ (1 : Int) < (a2.size : Int))) (cond (decide ((0 : Int) ≤ (2 : Int) ∧ (2 : Int) ≤ IntKind.i64.wrap (2 + (IntKind.i64.wrap ((a2.data.getD 1 0).toNat : Int))) ∧ IntKind.i64.wrap (2 + (IntKind.i64.wrap ((a2.data.getD 1 0).toNat : Int))) ≤ (a2.size : Int))) (K0 (a2.extract 2 ((IntKind.i64.wrap (2 + (IntKind.i64.wrap ((a2.data.getD 1 0).toNat : Int)))).toNat)) 0) none) none))) 
variable [FZ]
def sh56_1 : Sh := ⟨[.lf (.int .i64), .lf (.str)], []⟩
abbrev Y56_1 := Int → ByteArray → (ByteArray → Int → Option Res) → Option Res
noncomputable def A56_1 (g : Y56_1) (d : sh56_1.den) (K : KF) : Option Res := g d.1.1 d.1.2.1 (fun (y0 : ByteArray) (y1 : Int) => K [.lf (.str y0), .lf (.int .i64 y1)] [])
noncomputable def S56_1 (F : Nat) (o : Summ) : Summ := mkS sh56_1 (fun d K => A56_1 (f56_1 F) d K) o
noncomputable def code56 : Code := bodyOf Tryd.f56
theorem scopes56 : scopesOf code56 = [] := by kernel_rfl
theorem ranges56 : rangesOf code56 = [] := by kernel_rfl
theorem loops56 : loopsOf code56 = [] := by kernel_rfl
theorem enter56 : ∀ args w, (callFunc 56 args).run Tryd.prog w = .ok (.enter 56 args) w := enter_of (fn := Tryd.f56) (by kernel_rfl) (by kernel_rfl) (by kernel_rfl)
noncomputable def T56_1 (F : Nat) : FuncId → Option Summ := tab [(75, (S75_1 F noS))]
noncomputable def TB56_1 (c75_1 : Y75_1) : FuncId → Option Summ := tab [(75, (mkS sh75_1 (fun d K => A75_1 c75_1 d K) noS))]
noncomputable def LT56_1 (F : Nat) : Nat → Option LoopS := ltab []
theorem E56_1g (F : Nat) (c75_1 : Y75_1)   (d : sh56_1.den) (K : KF) : evBody Tryd.prog (TB56_1 c75_1) (xw []) 27 0 (ltab []) [] code56 Tryd.f56.results.toList (encT sh56_1.vs d.1) (encH sh56_1.h d.2) K = A56_1 (fun (a1 : Int) (a2 : ByteArray) (K0 : (ByteArray → Int → Option Res)) => c75_1 a2 (fun x1 x2 => cond (x2 != 0) (K0 ByteArray.empty x2) (cond (x1 != a1) (K0 ByteArray.empty 22) (cond (decide ((0 : Int) ≤ (1 : Int) ∧ (1 : Int) < (a2.size : Int))) (cond (decide ((0 : Int) ≤ (2 : Int) ∧ (2 : Int) ≤ IntKind.i64.wrap (2 + (IntKind.i64.wrap ((a2.data.getD 1 0).toNat : Int))) ∧ IntKind.i64.wrap (2 + (IntKind.i64.wrap ((a2.data.getD 1 0).toNat : Int))) ≤ (a2.size : Int))) (K0 (a2.extract 2 ((IntKind.i64.wrap (2 + (IntKind.i64.wrap ((a2.data.getD 1 0).toNat : Int)))).toNat)) 0) none) none))) ) d K := by kernel_rfl
theorem E56_1 (F : Nat) (d : sh56_1.den) (K : KF) : evBody Tryd.prog (T56_1 F) (xw []) 27 0 (LT56_1 F) [] code56 Tryd.f56.results.toList (encT sh56_1.vs d.1) (encH sh56_1.h d.2) K = A56_1 (f56_1 F) d K := Eq.mp (by kernel_rfl) (E56_1g F (f75_1 F)   d K)
theorem S56_1_ok (F : Nat) (o : Summ) (ho : SoundFn Tryd.prog 56 o) : SoundFn Tryd.prog 56 (S56_1 F o) :=
  soundFn_of (fn := Tryd.f56) (c := code56) rfl rfl (by kernel_rfl) (tab_cons (S75_1_ok F _ (noS_sound enter75)) tab_nil) (by kernel_rfl) (by kernel_rfl) ho (by rw [loops56]; exact loopsOK_nil) (by rw [scopes56]; exact scopesOK_nil) (by rw [ranges56]; exact rangesOK_nil) (E56_1 F)
end Go.Proofs.YtlgopekjjkdkiaaDoor.X
end

section
namespace Go.Proofs.YtlgopekjjkdkiaaDoor.X
open Go Go.Proofs.YtlgopekjjkdkiaaDoor.Ev Go.Proofs
set_option linter.unusedVariables false
set_option linter.unusedSectionVars false
/-! word.New -/
noncomputable def f57_1 {β : Type} (F : Nat) (a1 : List Int) (K0 : List Int → Option β) : Option β := cond (decide ((0 + a1.length) * 1 ≤ 70368744177664)) (K0 ([] ++ a1)) none
variable [FZ]
def sh57_1 : Sh := ⟨[.lf (.full 0)], [some ⟨none, [.seq (.int .u8) 0]⟩]⟩
abbrev Y57_1 := List Int → (List Int → Option Res) → Option Res
noncomputable def A57_1 (g : Y57_1) (d : sh57_1.den) (K : KF) : Option Res := g d.2.1.2.1 (fun (y2 : List Int) => K [.lf (.ptr 1 0)] [some ⟨d.2.1.1, [.seq (.int .u8) 0 d.2.1.2.1]⟩, some ⟨false, [.full 2, .int .i64 0]⟩, some ⟨false, [.seq (.int .u8) 0 y2]⟩])
noncomputable def S57_1 (F : Nat) (o : Summ) : Summ := mkS sh57_1 (fun d K => A57_1 (f57_1 F) d K) o
noncomputable def code57 : Code := bodyOf Tryd.f57
theorem scopes57 : scopesOf code57 = [] := by kernel_rfl
theorem ranges57 : rangesOf code57 = [] := by kernel_rfl
theorem loops57 : loopsOf code57 = [] := by kernel_rfl
theorem enter57 : ∀ args w, (callFunc 57 args).run Tryd.prog w = .ok (.enter 57 args) w := enter_of (fn := Tryd.f57) (by kernel_rfl) (by kernel_rfl) (by kernel_rfl)
noncomputable def T57_1 (F : Nat) : FuncId → Option Summ := tab []
noncomputable def TB57_1  : FuncId → Option Summ := tab []
noncomputable def LT57_1 (F : Nat) : Nat → Option LoopS := ltab []
theorem E57_1g (F : Nat)    (d : sh57_1.den) (K : KF) : evBody Tryd.prog TB57_1 (xw []) 8 1 (ltab []) [] code57 Tryd.f57.results.toList (encT sh57_1.vs d.1) (encH sh57_1.h d.2) K = A57_1 (fun (a1 : List Int) (K0 : (List Int → Option Res)) => cond (decide ((0 + a1.length) * 1 ≤ 70368744177664)) (K0 ([] ++ a1)) none) d K := by kernel_rfl
theorem E57_1 (F : Nat) (d : sh57_1.den) (K : KF) : evBody Tryd.prog (T57_1 F) (xw []) 8 1 (LT57_1 F) [] code57 Tryd.f57.results.toList (encT sh57_1.vs d.1) (encH sh57_1.h d.2) K = A57_1 (f57_1 F) d K := Eq.mp (by kernel_rfl) (E57_1g F    d K)
theorem S57_1_ok (F : Nat) (o : Summ) (ho : SoundFn Tryd.prog 57 o) : SoundFn Tryd.prog 57 (S57_1 F o) :=
  soundFn_of (fn := Tryd.f57) (c := code57) rfl rfl (by kernel_rfl) tab_nil (by kernel_rfl) (by kernel_rfl) ho (by rw [loops57]; exact loopsOK_nil) (by rw [scopes57]; exact scopesOK_nil) (by rw [ranges57]; exact rangesOK_nil) (E57_1 F)
end Go.Proofs.YtlgopekjjkdkiaaDoor.X
end

section
namespace Go.Proofs.YtlgopekjjkdkiaaDoor.X
open Go Go.Proofs.YtlgopekjjkdkiaaDoor.Ev Go.Proofs
set_option linter.unusedVariables false
set_option linter.unusedSectionVars false
/-! word.Get -/
noncomputable def f76_1_l7 {β : Type} (F : Nat) (v3 : Nat) (v4 : Nat) (v5 : Int) (v7 : List Int) (K0 : Int → Option β) : Nat → Int → Int → Option β
  | 0, _, _ => none
  | k + 1, v2, v6 => cond (decide (v6 < v5)) (cond (decide ((0 : Int) ≤ v6 ∧ v6 < ((v4 : Nat) : Int))) (cond (decide (v3 + v6.toNat < v7.length)) (f76_1_l7 F v3 v4 v5 v7 K0 k (ior .u64 (ishl .u64 v2 8) (IntKind.u64.wrap (v7.getD (v3 + v6.toNat) 0))) (IntKind.i64.wrap (v6 + 1))) none) none) (K0 v2)
noncomputable def f76_1 {β : Type} (F : Nat) (a1 : Int) (a2 : Int) (a3 : List Int) (K0 : Int → Int → Option β) : Option β := f74_1 F a2 (fun x1 => cond (!x1) (K0 0 2) (cond (decide (a1 < 0)) (K0 0 2) (cond (decide (a1 > ((a3.length : Nat) : Int))) (K0 0 7) (cond (decide (IntKind.i64.wrap (((a3.length : Nat) : Int) - a1) < a2)) (K0 0 7) (cond (decide ((0 : Int) ≤ a1 ∧ a1 ≤ IntKind.i64.wrap (a1 + a2) ∧ IntKind.i64.wrap (a1 + a2) ≤ ((a3.length : Nat) : Int))) (f76_1_l7 F (0 + a1.toNat) ((IntKind.i64.wrap (a1 + a2) - a1).toNat) (((IntKind.i64.wrap (a1 + a2) - a1).toNat : Nat) : Int) a3 (fun x8 => K0 x8 0) F 0 0) none))))) 
variable [FZ]
def sh76_1 : Sh := ⟨[.lf (.full 0), .lf (.int .i64), .lf (.int .i64)], [some ⟨none, [.seq (.int .u8) 0]⟩]⟩
abbrev Y76_1 := Int → Int → List Int → (Int → Int → Option Res) → Option Res
noncomputable def A76_1 (g : Y76_1) (d : sh76_1.den) (K : KF) : Option Res := g d.1.2.1 d.1.2.2.1 d.2.1.2.1 (fun (y0 : Int) (y1 : Int) => K [.lf (.int .u64 y0), .lf (.int .i64 y1)] [some ⟨d.2.1.1, [.seq (.int .u8) 0 d.2.1.2.1]⟩])
noncomputable def S76_1 (F : Nat) (o : Summ) : Summ := mkS sh76_1 (fun d K => A76_1 (f76_1 F) d K) o
noncomputable def code76 : Code := bodyOf Tryd.f76
noncomputable def b76_0 : Code := cB (cB (cR (cL (cR (cR (cR (code76)))))))
theorem scopes76 : scopesOf code76 = [] := by kernel_rfl
theorem ranges76 : rangesOf code76 = [] := by kernel_rfl
theorem loops76 : loopsOf code76 = [b76_0] := by kernel_rfl
theorem enter76 : ∀ args w, (callFunc 76 args).run Tryd.prog w = .ok (.enter 76 args) w := enter_of (fn := Tryd.f76) (by kernel_rfl) (by kernel_rfl) (by kernel_rfl)
noncomputable def T76_1 (F : Nat) : FuncId → Option Summ := tab [(74, (S74_1 F noS))]
noncomputable def TB76_1 (c74_1 : Y74_1) : FuncId → Option Summ := tab [(74, (mkS sh74_1 (fun d K => A74_1 c74_1 d K) noS))]
def sh76_1_l7 : Sh := ⟨[.lf (.int .u64), .lf (.slice 0 0), .lf (.int .i64), .lf (.int .i64)], [some ⟨none, [.seq (.int .u8) 0]⟩]⟩
abbrev Y76_1_l7 := Nat → Nat → Int → List Int → (Int → Option Res) → Nat → Int → Int → Option Res
noncomputable def A76_1_l7 (g : Y76_1_l7) (k : Nat) (d : sh76_1_l7.den) (K : KL) : Option Res := g d.1.2.1.1 d.1.2.1.2 d.1.2.2.1 d.2.1.2.1 (fun (y0 : Int) => K (.exit 1) [.tv (.lf (.int .u64 y0))] [some ⟨d.2.1.1, [.seq (.int .u8) 0 d.2.1.2.1]⟩]) k d.1.1 d.1.2.2.2.1
noncomputable def G76_1_7 (F k : Nat) : LoopS := mkG sh76_1_l7 [8, 37, 38, 39] (outT [(.exit 1, [8])]) (fun d K => A76_1_l7 (f76_1_l7 F) k d K) []
noncomputable def LT76_1 (F : Nat) : Nat → Option LoopS := ltab [(7, G76_1_7 F F)]
theorem L76_1_l7g (F k : Nat) (c74_1 : Y74_1)  (l7 : Y76_1_l7) (X7 : LoopS) (d : sh76_1_l7.den) (K : KL) : A76_1_l7 ((fun (v3 : Nat) (v4 : Nat) (v5 : Int) (v7 : List Int) (K0 : (Int → Option Res)) (k : Nat) (v2 : Int) (v6 : Int) => cond (decide (v6 < v5)) (cond (decide ((0 : Int) ≤ v6 ∧ v6 < ((v4 : Nat) : Int))) (cond (decide (v3 + v6.toNat < v7.length)) (l7 v3 v4 v5 v7 K0 k (ior .u64 (ishl .u64 v2 8) (IntKind.u64.wrap (v7.getD (v3 + v6.toNat) 0))) (IntKind.i64.wrap (v6 + 1))) none) none) (K0 v2))) k d K = roundOf Tryd.prog (TB76_1 c74_1) (xw []) 50 1 (ltab [(7, X7)]) (mkG sh76_1_l7 [8, 37, 38, 39] (outT [(.exit 1, [8])]) (fun d K => A76_1_l7 l7 k d K) []) b76_0 (encT sh76_1_l7.vs d.1) (encH sh76_1_l7.h d.2) K := by kernel_rfl
theorem L76_1_7 (F : Nat) : LoopOK Tryd.prog (T76_1 F) (xw []) 50 1 (LT76_1 F) (G76_1_7 F F) b76_0 :=
  loopOK_of (s := sh76_1_l7) (live := [8, 37, 38, 39]) (out := (outT [(.exit 1, [8])])) (mv := []) (fun k d K => A76_1_l7 (f76_1_l7 F) k d K) F (fun d K => by kernel_rfl)  (fun k d K => Eq.mp (by kernel_rfl) (L76_1_l7g F k (f74_1 F)  (f76_1_l7 F) (G76_1_7 F F) d K))
theorem E76_1g (F : Nat) (c74_1 : Y74_1) (l7 : Y76_1_l7)  (d : sh76_1.den) (K : KF) : evBody Tryd.prog (TB76_1 c74_1) (xw []) 50 1 (ltab [(7, mkG sh76_1_l7 [8, 37, 38, 39] (outT [(.exit 1, [8])]) (fun d K => A76_1_l7 l7 F d K) [])]) [] code76 Tryd.f76.results.toList (encT sh76_1.vs d.1) (encH sh76_1.h d.2) K = A76_1 (fun (a1 : Int) (a2 : Int) (a3 : List Int) (K0 : (Int → Int → Option Res)) => c74_1 a2 (fun x1 => cond (!x1) (K0 0 2) (cond (decide (a1 < 0)) (K0 0 2) (cond (decide (a1 > ((a3.length : Nat) : Int))) (K0 0 7) (cond (decide (IntKind.i64.wrap (((a3.length : Nat) : Int) - a1) < a2)) (K0 0 7) (cond (decide ((0 : Int) ≤ a1 ∧ a1 ≤ IntKind.i64.wrap (a1 + a2) ∧ IntKind.i64.wrap (a1 + a2) ≤ ((a3.length : Nat) : Int))) (l7 (0 + a1.toNat) ((IntKind.i64.wrap (a1 + a2) - a1).toNat) (((IntKind.i64.wrap (a1 + a2) - a1).toNat : Nat) : Int) a3 (fun x8 => K0 x8 0) F 0 0) none))))) ) d K := by kernel_rfl
theorem E76_1 (F : Nat) (d : sh76_1.den) (K : KF) : evBody Tryd.prog (T76_1 F) (xw []) 50 1 (LT76_1 F) [] code76 Tryd.f76.results.toList (encT sh76_1.vs d.1) (encH sh76_1.h d.2) K = A76_1 (f76_1 F) d K := Eq.mp (by kernel_rfl) (E76_1g F (f74_1 F) (f76_1_l7 F)  d K)
theorem S76_1_ok (F : Nat) (o : Summ) (ho : SoundFn Tryd.prog 76 o) : SoundFn Tryd.prog 76 (S76_1 F o) :=
  soundFn_of (fn := Tryd.f76) (c := code76) rfl rfl (by kernel_rfl) (tab_cons (S74_1_ok F _ (noS_sound enter74)) tab_nil) (by kernel_rfl) (by kernel_rfl) ho (by rw [loops76]; exact (loopsOK_cons (by kernel_rfl) (L76_1_7 F) loopsOK_nil)) (by rw [scopes76]; exact scopesOK_nil) (by rw [ranges76]; exact rangesOK_nil) (E76_1 F)
end Go.Proofs.YtlgopekjjkdkiaaDoor.X
end

section
namespace Go.Proofs.YtlgopekjjkdkiaaDoor.X
open Go Go.Proofs.YtlgopekjjkdkiaaDoor.Ev Go.Proofs
set_option linter.unusedVariables false
set_option linter.unusedSectionVars false
/-! word.Reader).Num -/
noncomputable def f58_1_l1000000 {β : Type} (F : Nat) (v3 : Int) (v4 : Int) (v5 : List Int) (K0 : Option β) : Nat → Option β
  | 0 => none
  | k + 1 => K0
noncomputable def f58_1 {β : Type} (F : Nat) (a1 : Int) (a2 : Int) (a3 : List Int) (K0 : Int → Int → List Int → Option β) : Option β := cond (a2 != 0) (K0 0 a2 a3) (f76_1 F 0 a1 a3 (fun x1 x2 => cond (x2 != 0) (f58_1_l1000000 F x2 a2 a3 (K0 0 x2 a3) F) (cond (decide ((0 : Int) ≤ a1 ∧ a1 ≤ ((a3.length : Nat) : Int) ∧ ((a3.length : Nat) : Int) ≤ ((a3.length : Nat) : Int))) (K0 x1 a2 ((a3.drop (0 + a1.toNat)).take ((((a3.length : Nat) : Int) - a1).toNat))) none)) )
variable [FZ]
def sh58_1 : Sh := ⟨[.lf (.ptr 0 0), .lf (.int .i64)], [some ⟨some false, [.full 1, .int .i64]⟩, some ⟨some false, [.seq (.int .u8) 0]⟩]⟩
abbrev Y58_1 := Int → Int → List Int → (Int → Int → List Int → Option Res) → Option Res
noncomputable def A58_1 (g : Y58_1) (d : sh58_1.den) (K : KF) : Option Res := g d.1.2.1 d.2.1.2.2.1 d.2.2.1.2.1 (fun (y0 : Int) (y1 : Int) (y2 : List Int) => K [.lf (.int .u64 y0)] [some ⟨false, [.full 2, .int .i64 y1]⟩, none, some ⟨false, [.seq (.int .u8) 0 y2]⟩])
noncomputable def S58_1 (F : Nat) (o : Summ) : Summ := mkS sh58_1 (fun d K => A58_1 (f58_1 F) d K) o
noncomputable def code58 : Code := bodyOf Tryd.f58
noncomputable def s58_0 : Code := cB (cR (code58))
noncomputable def r58_0 : Code := match findLabel s58_0 0 with | some c => c | none => .skip
theorem find58_0 : findLabel s58_0 0 = some r58_0 := by kernel_rfl
theorem rloops58_0 : loopsOf r58_0 = [] := by kernel_rfl
theorem rscopes58_0 : scopesOf r58_0 = [] := by kernel_rfl
theorem rranges58_0 : rangesOf r58_0 = [] := by kernel_rfl
theorem scopes58 : scopesOf code58 = [s58_0] := by kernel_rfl
theorem ranges58 : rangesOf code58 = [] := by kernel_rfl
theorem loops58 : loopsOf code58 = [] := by kernel_rfl
theorem enter58 : ∀ args w, (callFunc 58 args).run Tryd.prog w = .ok (.enter 58 args) w := enter_of (fn := Tryd.f58) (by kernel_rfl) (by kernel_rfl) (by kernel_rfl)
noncomputable def T58_1 (F : Nat) : FuncId → Option Summ := tab [(76, (S76_1 F noS))]
noncomputable def TB58_1 (c76_1 : Y76_1) : FuncId → Option Summ := tab [(76, (mkS sh76_1 (fun d K => A76_1 c76_1 d K) noS))]
def sh58_1_l1000000 : Sh := ⟨[.lf (.ptr 0 0), .lf (.int .i64)], [some ⟨some false, [.full 1, .int .i64]⟩, some ⟨some false, [.seq (.int .u8) 0]⟩]⟩
abbrev Y58_1_l1000000 := Int → Int → List Int → (Option Res) → Nat → Option Res
noncomputable def A58_1_l1000000 (g : Y58_1_l1000000) (k : Nat) (d : sh58_1_l1000000.den) (K : KL) : Option Res := g d.1.2.1 d.2.1.2.2.1 d.2.2.1.2.1 (K .ret [.tv (.lf (.int .u64 0))] [some ⟨false, [.full 1, .int .i64 d.1.2.1]⟩, some ⟨false, [.seq (.int .u8) 0 d.2.2.1.2.1]⟩]) k
noncomputable def G58_1_1000000 (F k : Nat) : LoopS := mkG sh58_1_l1000000 [0, 6] (outT [(.ret, [4])]) (fun d K => A58_1_l1000000 (f58_1_l1000000 F) k d K) []
noncomputable def LT58_1 (F : Nat) : Nat → Option LoopS := ltab [(1000000, G58_1_1000000 F F)]
theorem L58_1_l1000000g (F k : Nat) (c76_1 : Y76_1)  (l1000000 : Y58_1_l1000000) (X1000000 : LoopS) (d : sh58_1_l1000000.den) (K : KL) : A58_1_l1000000 ((fun (v3 : Int) (v4 : Int) (v5 : List Int) (K0 : (Option Res)) (k : Nat)  => K0)) k d K = passOf Tryd.prog (TB58_1 c76_1) (xw []) 41 2 (ltab [(1000000, X1000000)]) (mkG sh58_1_l1000000 [0, 6] (outT [(.ret, [4])]) (fun d K => A58_1_l1000000 l1000000 k d K) []) 0 r58_0 (encT sh58_1_l1000000.vs d.1) (encH sh58_1_l1000000.h d.2) K := by kernel_rfl
theorem L58_1_1000000 (F : Nat) : LabelOK Tryd.prog (T58_1 F) (xw []) 41 2 (LT58_1 F) (G58_1_1000000 F F) 0 s58_0 :=
  labelOK_of rfl (by kernel_rfl) (tab_cons (S76_1_ok F _ (noS_sound enter76)) tab_nil) (s := sh58_1_l1000000) (live := [0, 6]) (out := (outT [(.ret, [4])])) (mv := []) (fun k d K => A58_1_l1000000 (f58_1_l1000000 F) k d K) F find58_0 (fun d K => by kernel_rfl)  (fun k d K => Eq.mp (by kernel_rfl) (L58_1_l1000000g F k (f76_1 F)  (f58_1_l1000000 F) (G58_1_1000000 F F) d K)) (by rw [rloops58_0]; exact loopsOK_nil) (by rw [rscopes58_0]; exact scopesOK_nil) (by rw [rranges58_0]; exact rangesOK_nil)
theorem E58_1g (F : Nat) (c76_1 : Y76_1) (l1000000 : Y58_1_l1000000)  (d : sh58_1.den) (K : KF) : evBody Tryd.prog (TB58_1 c76_1) (xw []) 41 2 (ltab [(1000000, mkG sh58_1_l1000000 [0, 6] (outT [(.ret, [4])]) (fun d K => A58_1_l1000000 l1000000 F d K) [])]) [1] code58 Tryd.f58.results.toList (encT sh58_1.vs d.1) (encH sh58_1.h d.2) K = A58_1 (fun (a1 : Int) (a2 : Int) (a3 : List Int) (K0 : (Int → Int → List Int → Option Res)) => cond (a2 != 0) (K0 0 a2 a3) (c76_1 0 a1 a3 (fun x1 x2 => cond (x2 != 0) (l1000000 x2 a2 a3 (K0 0 x2 a3) F) (cond (decide ((0 : Int) ≤ a1 ∧ a1 ≤ ((a3.length : Nat) : Int) ∧ ((a3.length : Nat) : Int) ≤ ((a3.length : Nat) : Int))) (K0 x1 a2 ((a3.drop (0 + a1.toNat)).take ((((a3.length : Nat) : Int) - a1).toNat))) none)) )) d K := by kernel_rfl
theorem E58_1 (F : Nat) (d : sh58_1.den) (K : KF) : evBody Tryd.prog (T58_1 F) (xw []) 41 2 (LT58_1 F) [1] code58 Tryd.f58.results.toList (encT sh58_1.vs d.1) (encH sh58_1.h d.2) K = A58_1 (f58_1 F) d K := Eq.mp (by kernel_rfl) (E58_1g F (f76_1 F) (f58_1_l1000000 F)  d K)
theorem S58_1_ok (F : Nat) (o : Summ) (ho : SoundFn Tryd.prog 58 o) : SoundFn Tryd.prog 58 (S58_1 F o) :=
  soundFn_of (fn := Tryd.f58) (c := code58) rfl rfl (by kernel_rfl) (tab_cons (S76_1_ok F _ (noS_sound enter76)) tab_nil) (by kernel_rfl) (by kernel_rfl) ho (by rw [loops58]; exact loopsOK_nil) (by rw [scopes58]; exact (scopesOK_cons (by kernel_rfl) (by kernel_rfl) (L58_1_1000000 F) scopesOK_nil)) (by rw [ranges58]; exact rangesOK_nil) (E58_1 F)
end Go.Proofs.YtlgopekjjkdkiaaDoor.X
end

section
namespace Go.Proofs.YtlgopekjjkdkiaaDoor.X
open Go Go.Proofs.YtlgopekjjkdkiaaDoor.Ev Go.Proofs
set_option linter.unusedVariables false
set_option linter.unusedSectionVars false
/-! undo.read -/
noncomputable def f60_1 {β : Type} (F : Nat) (a1 : Int) (a2 : Int) (a3 : Int) (a4 : Int) (a5 : Int) (a6 : Int) (a7 : Int) (a8 : Int) (a9 : Int) (a10 : ByteArray) (a11 : Int) (a12 : Bool) (a13 : Int) (a14 : List ByteArray) (a15 : List (Int × ByteArray)) (K0 : Int → Int → Int → ByteArray → Bool → Int → Option β) : Option β := f37_1 F a1 a2 a3 a4 a5 (fun x1 x2 => f29_1 F x1 a11 a12 a13 a14 a15 (fun x3 x4 => cond (x4 != 0) (K0 0 0 0 ByteArray.empty false x4) (f56_1 F 7 x3 (fun x5 x6 => cond (x6 != 0) (K0 0 0 0 ByteArray.empty false 0) (cond ((x5.size : Int) != 28) (K0 0 0 0 ByteArray.empty false 0) (f57_1 F (toInts x5) (fun x7 => f58_1 F 8 0 x7 (fun x8 x9 x10 => f58_1 F 8 x9 x10 (fun x11 x12 x13 => f58_1 F 4 x12 x13 (fun x14 x15 x16 => f58_1 F 4 x15 x16 (fun x17 x18 x19 => f58_1 F 4 x18 x19 (fun x20 x21 x22 => cond (decide (a5 > 0)) (cond (x8 != a7) (cond (x14 != (IntKind.u64.wrap a5)) (K0 0 0 0 ByteArray.empty false 0) (f36_1 F a1 a2 a3 a4 (IntKind.i64.wrap x17) (fun x23 => cond (!x23) (K0 0 0 0 ByteArray.empty false 0) (cond (decide (x11 ≤ a6)) (K0 0 0 0 ByteArray.empty false 0) (K0 0 0 0 ByteArray.empty false 0))) )) (cond (x14 != (IntKind.u64.wrap a5)) (K0 0 0 0 ByteArray.empty false 0) (f36_1 F a1 a2 a3 a4 (IntKind.i64.wrap x17) (fun x24 => cond (!x24) (K0 0 0 0 ByteArray.empty false 0) (cond (decide (x11 ≤ a6)) (K0 0 0 0 ByteArray.empty false 0) (cond (x11 != a8) (K0 0 0 0 ByteArray.empty false 0) (f29_1 F x2 a11 a12 a13 a14 a15 (fun x25 x26 => cond (x26 == 0) (f54_1 F (toInts x25) (fun x27 => K0 x8 x11 (IntKind.i64.wrap x17) x25 (x27 == (IntKind.u32.wrap x20)) x26) ) (K0 x8 x11 (IntKind.i64.wrap x17) x25 false x26)) )))) ))) (cond (x14 != (IntKind.u64.wrap a5)) (K0 0 0 0 ByteArray.empty false 0) (f36_1 F a1 a2 a3 a4 (IntKind.i64.wrap x17) (fun x28 => cond (!x28) (K0 0 0 0 ByteArray.empty false 0) (cond (decide (x11 ≤ a6)) (K0 0 0 0 ByteArray.empty false 0) (f29_1 F x2 a11 a12 a13 a14 a15 (fun x29 x30 => cond (x30 == 0) (f54_1 F (toInts x29) (fun x31 => K0 x8 x11 (IntKind.i64.wrap x17) x29 (x31 == (IntKind.u32.wrap x20)) x30) ) (K0 x8 x11 (IntKind.i64.wrap x17) x29 false x30)) ))) ))) ) ) ) ) ) ))) )) ) 
variable [FZ]
def sh60_1 : Sh := ⟨[.lf (.ptr 0 0), .agg [.int .i64, .int .i64, .int .i64, .int .i64], .lf (.int .i64), .lf (.int .u64), .agg [.int .u64, .int .u64, .int .i64, .str]], [some ⟨none, [.full 1, .full 2, .int .i64, .bool, .int .i64]⟩, some ⟨none, [.seq .str 0]⟩, some ⟨none, [.seq (.pair (.int .i64) .str) 0]⟩]⟩
abbrev Y60_1 := Int → Int → Int → Int → Int → Int → Int → Int → Int → ByteArray → Int → Bool → Int → List ByteArray → List (Int × ByteArray) → (Int → Int → Int → ByteArray → Bool → Int → Option Res) → Option Res
noncomputable def A60_1 (g : Y60_1) (d : sh60_1.den) (K : KF) : Option Res := g d.1.2.1.1 d.1.2.1.2.1 d.1.2.1.2.2.1 d.1.2.1.2.2.2.1 d.1.2.2.1 d.1.2.2.2.1 d.1.2.2.2.2.1.1 d.1.2.2.2.2.1.2.1 d.1.2.2.2.2.1.2.2.1 d.1.2.2.2.2.1.2.2.2.1 d.2.1.2.2.2.1 d.2.1.2.2.2.2.1 d.2.1.2.2.2.2.2.1 d.2.2.1.2.1 d.2.2.2.1.2.1 (fun (y0 : Int) (y1 : Int) (y2 : Int) (y3 : ByteArray) (y4 : Bool) (y5 : Int) => K [.agg [.int .u64 y0, .int .u64 y1, .int .i64 y2, .str y3], .lf (.bool y4), .lf (.int .i64 y5)] [some ⟨d.2.1.1, [.full 1, .full 2, .int .i64 d.2.1.2.2.2.1, .bool d.2.1.2.2.2.2.1, .int .i64 d.2.1.2.2.2.2.2.1]⟩, some ⟨d.2.2.1.1, [.seq .str 0 d.2.2.1.2.1]⟩, some ⟨d.2.2.2.1.1, [.seq (.pair (.int .i64) .str) 0 d.2.2.2.1.2.1]⟩])
noncomputable def S60_1 (F : Nat) (o : Summ) : Summ := mkS sh60_1 (fun d K => A60_1 (f60_1 F) d K) o
noncomputable def code60 : Code := bodyOf Tryd.f60
theorem scopes60 : scopesOf code60 = [] := by kernel_rfl
theorem ranges60 : rangesOf code60 = [] := by kernel_rfl
theorem loops60 : loopsOf code60 = [] := by kernel_rfl
theorem enter60 : ∀ args w, (callFunc 60 args).run Tryd.prog w = .ok (.enter 60 args) w := enter_of (fn := Tryd.f60) (by kernel_rfl) (by kernel_rfl) (by kernel_rfl)
noncomputable def T60_1 (F : Nat) : FuncId → Option Summ := tab [(29, (S29_1 F noS)), (36, (S36_1 F noS)), (37, (S37_1 F noS)), (54, (S54_1 F noS)), (56, (S56_1 F noS)), (57, (S57_1 F noS)), (58, (S58_1 F noS))]
noncomputable def TB60_1 (c29_1 : Y29_1) (c36_1 : Y36_1) (c37_1 : Y37_1) (c54_1 : Y54_1) (c56_1 : Y56_1) (c57_1 : Y57_1) (c58_1 : Y58_1) : FuncId → Option Summ := tab [(29, (mkS sh29_1 (fun d K => A29_1 c29_1 d K) noS)), (36, (mkS sh36_1 (fun d K => A36_1 c36_1 d K) noS)), (37, (mkS sh37_1 (fun d K => A37_1 c37_1 d K) noS)), (54, (mkS sh54_1 (fun d K => A54_1 c54_1 d K) noS)), (56, (mkS sh56_1 (fun d K => A56_1 c56_1 d K) noS)), (57, (mkS sh57_1 (fun d K => A57_1 c57_1 d K) noS)), (58, (mkS sh58_1 (fun d K => A58_1 c58_1 d K) noS))]
noncomputable def LT60_1 (F : Nat) : Nat → Option LoopS := ltab []
theorem E60_1g (F : Nat) (c29_1 : Y29_1) (c36_1 : Y36_1) (c37_1 : Y37_1) (c54_1 : Y54_1) (c56_1 : Y56_1) (c57_1 : Y57_1) (c58_1 : Y58_1)   (d : sh60_1.den) (K : KF) : evBody Tryd.prog (TB60_1 c29_1 c36_1 c37_1 c54_1 c56_1 c57_1 c58_1) (xw []) 126 3 (ltab []) [] code60 Tryd.f60.results.toList (encT sh60_1.vs d.1) (encH sh60_1.h d.2) K = A60_1 (fun (a1 : Int) (a2 : Int) (a3 : Int) (a4 : Int) (a5 : Int) (a6 : Int) (a7 : Int) (a8 : Int) (a9 : Int) (a10 : ByteArray) (a11 : Int) (a12 : Bool) (a13 : Int) (a14 : List ByteArray) (a15 : List (Int × ByteArray)) (K0 : (Int → Int → Int → ByteArray → Bool → Int → Option Res)) => c37_1 a1 a2 a3 a4 a5 (fun x1 x2 => c29_1 x1 a11 a12 a13 a14 a15 (fun x3 x4 => cond (x4 != 0) (K0 0 0 0 ByteArray.empty false x4) (c56_1 7 x3 (fun x5 x6 => cond (x6 != 0) (K0 0 0 0 ByteArray.empty false 0) (cond ((x5.size : Int) != 28) (K0 0 0 0 ByteArray.empty false 0) (c57_1 (toInts x5) (fun x7 => c58_1 8 0 x7 (fun x8 x9 x10 => c58_1 8 x9 x10 (fun x11 x12 x13 => c58_1 4 x12 x13 (fun x14 x15 x16 => c58_1 4 x15 x16 (fun x17 x18 x19 => c58_1 4 x18 x19 (fun x20 x21 x22 => cond (decide (a5 > 0)) (cond (x8 != a7) (cond (x14 != (IntKind.u64.wrap a5)) (K0 0 0 0 ByteArray.empty false 0) (c36_1 a1 a2 a3 a4 (IntKind.i64.wrap x17) (fun x23 => cond (!x23) (K0 0 0 0 ByteArray.empty false 0) (cond (decide (x11 ≤ a6)) (K0 0 0 0 ByteArray.empty false 0) (K0 0 0 0 ByteArray.empty false 0))) )) (cond (x14 != (IntKind.u64.wrap a5)) (K0 0 0 0 ByteArray.empty false 0) (c36_1 a1 a2 a3 a4 (IntKind.i64.wrap x17) (fun x24 => cond (!x24) (K0 0 0 0 ByteArray.empty false 0) (cond (decide (x11 ≤ a6)) (K0 0 0 0 ByteArray.empty false 0) (cond (x11 != a8) (K0 0 0 0 ByteArray.empty false 0) (c29_1 x2 a11 a12 a13 a14 a15 (fun x25 x26 => cond (x26 == 0) (c54_1 (toInts x25) (fun x27 => K0 x8 x11 (IntKind.i64.wrap x17) x25 (x27 == (IntKind.u32.wrap x20)) x26) ) (K0 x8 x11 (IntKind.i64.wrap x17) x25 false x26)) )))) ))) (cond (x14 != (IntKind.u64.wrap a5)) (K0 0 0 0 ByteArray.empty false 0) (c36_1 a1 a2 a3 a4 (IntKind.i64.wrap x17) (fun x28 => cond (!x28) (K0 0 0 0 ByteArray.empty false 0) (cond (decide (x11 ≤ a6)) (K0 0 0 0 ByteArray.empty false 0) (c29_1 x2 a11 a12 a13 a14 a15 (fun x29 x30 => cond (x30 == 0) (c54_1 (toInts x29) (fun x31 => K0 x8 x11 (IntKind.i64.wrap x17) x29 (x31 == (IntKind.u32.wrap x20)) x30) ) (K0 x8 x11 (IntKind.i64.wrap x17) x29 false x30)) ))) ))) ) ) ) ) ) ))) )) ) ) d K := by kernel_rfl
theorem E60_1 (F : Nat) (d : sh60_1.den) (K : KF) : evBody Tryd.prog (T60_1 F) (xw []) 126 3 (LT60_1 F) [] code60 Tryd.f60.results.toList (encT sh60_1.vs d.1) (encH sh60_1.h d.2) K = A60_1 (f60_1 F) d K := Eq.mp (by kernel_rfl) (E60_1g F (f29_1 F) (f36_1 F) (f37_1 F) (f54_1 F) (f56_1 F) (f57_1 F) (f58_1 F)   d K)
theorem S60_1_ok (F : Nat) (o : Summ) (ho : SoundFn Tryd.prog 60 o) : SoundFn Tryd.prog 60 (S60_1 F o) :=
  soundFn_of (fn := Tryd.f60) (c := code60) rfl rfl (by kernel_rfl) (tab_cons (S29_1_ok F _ (noS_sound enter29)) (tab_cons (S36_1_ok F _ (noS_sound enter36)) (tab_cons (S37_1_ok F _ (noS_sound enter37)) (tab_cons (S54_1_ok F _ (noS_sound enter54)) (tab_cons (S56_1_ok F _ (noS_sound enter56)) (tab_cons (S57_1_ok F _ (noS_sound enter57)) (tab_cons (S58_1_ok F _ (noS_sound enter58)) tab_nil))))))) (by kernel_rfl) (by kernel_rfl) ho (by rw [loops60]; exact loopsOK_nil) (by rw [scopes60]; exact scopesOK_nil) (by rw [ranges60]; exact rangesOK_nil) (E60_1 F)
end Go.Proofs.YtlgopekjjkdkiaaDoor.X
end
