/- Merged: EvS18, EvS19, Trm, TrimC, EvF51, EvF31, EvF52, EvF69, EvF55, EvF53, EvF54, EvF32, EvF11, EvF30v6206, EvF11v568, EvF56, EvF33, EvF28, EvF63, EvF42, EvF89, EvF77, EvF62, EvF57, EvF34, EvF36, EvF35, EvF12, Rep, RepC, EvF37, EvF61, EvF38, EvF27, EvF39, EvF7. -/
import Derived.Test.YtillbabmlfjegaaGreatDoorMDirtyLoadsCard3
import Derived.ChangeArms
import Derived.OpenShut
import Derived.Below
import Derived.Carry
import Derived.ChangeShapes
import Derived.WideShapes
import Derived.Test.YtillbabmlfjegaaGreatDoorProg
import Derived.Shelf.Strings.SlTrimAscii
import Derived.KernelRfl
import Derived.Shelf.Strings.Repeat
section
/- A row's arguments, opened as typed values. -/
namespace Go.Proofs.YtillbabmlfjegaaGreatDoor.Ev
open Go Go.RowKit
set_option linter.unusedVariables false
set_option linter.unusedSimpArgs false
set_option linter.unusedSectionVars false
variable [FZ]

def scK (P : Program) (e : TypeId) : Option EK := match P.underlying e with
  | some (.int k) => some (.int k)
  | some .bool => some .bool
  | some .string => some .str
  | _ => none

def scS (P : Program) (e : TypeId) : Option SK := match P.underlying e with
  | some (.int k) => some (.int k)
  | some .bool => some .bool
  | some .string => some .str
  | _ => none

def wfS : (q : SK) → q.den → Prop
  | .int k, n => (Lit.int k n).wf = true
  | .bool, _ => True
  | .str, s => s.size ≤ maxLen

def wfE : (k : EK) → k.den → Prop
  | .int k, n => (Lit.int k n).wf = true
  | .bool, _ => True
  | .str, s => s.size ≤ maxLen
  | .pair a b, p => wfE a p.1 ∧ wfE b p.2
  | .sl q, x => x.dat.length ≤ maxLen ∧ ∀ y ∈ x.dat, wfS q y

def wfD : (s : SL) → s.den → Prop
  | .int k, n => (Lit.int k n).wf = true
  | .str, s => s.size ≤ maxLen
  | .seq k n, l => l.length = n ∧ ∀ x ∈ l, wfE k x
  | .sl q, x => wfE (.sl q) x
  | _, _ => True

def wfL : (l : List SL) → denL l → Prop
  | [], _ => True
  | s :: r, d => wfD s d.1 ∧ wfL r d.2

def appD : (a b : List SL) → denL a → denL b → denL (a ++ b)
  | [], _, _, y => y
  | _ :: r, b, x, y => (x.1, appD r b x.2 y)

theorem encL_app : ∀ (a b : List SL) (x : denL a) (y : denL b), encL (a ++ b) (appD a b x y) = encL a x ++ encL b y
  | [], _, _, _ => rfl
  | s :: r, b, x, y => by
    show s.enc x.1 :: encL (r ++ b) (appD r b x.2 y) = s.enc x.1 :: (encL r x.2 ++ encL b y)
    rw [encL_app r b]

theorem wfL_app : ∀ (a b : List SL) (x : denL a) (y : denL b), wfL a x → wfL b y → wfL (a ++ b) (appD a b x y)
  | [], _, _, _, _, h => h
  | s :: r, b, x, y, hx, hy => ⟨hx.1, wfL_app r b x.2 y hx.2 hy⟩

section
variable (P : Program)

def slFs (g : TypeId → Option (List SL)) : Nat → List Field → Option (List SL × Nat)
  | off, [] => some ([], off)
  | off, f :: r => if f.offset = off then (match g f.type, slFs g (off + P.cellsOf f.type) r with
    | some a, some (b, n) => some (a ++ b, n)
    | _, _ => none) else none

def slOf : Nat → TypeId → Option (List SL)
  | 0, _ => none
  | f + 1, t => match P.underlying t with
    | some (.int k) => some [.int k]
    | some .bool => some [.bool]
    | some .string => some [.str]
    | some (.array n e) => match scK P e with
      | some k => if P.cellsOf e = 1 ∧ P.cellsOf t = n then some [.seq k n] else none
      | none => none
    | some (.struct fs) => match slFs P (slOf f) 0 fs.toList with
      | some (l, n) => if n = P.cellsOf t then some l else none
      | none => none
    | some (.slice e) => match scS P e with
      | some q => if P.cellsOf e = 1 then some [.sl q] else none
      | none => none
    | _ => none
end

theorem pick_list {α : Type} {n : Nat} {R : Nat → α → Prop} (h : ∀ i, i < n → ∃ z, R i z) : ∃ l : List α, l.length = n ∧ ∀ i z, l[i]? = some z → R i z := by
  induction n with
  | zero => exact ⟨[], rfl, fun i z h => by simp at h⟩
  | succ n ih =>
    obtain ⟨l, h1, h2⟩ := ih fun i hi => h i (by omega)
    obtain ⟨z, hz⟩ := h n (by omega)
    refine ⟨l ++ [z], by simp [h1], fun i y hy => ?_⟩
    by_cases hi : i < n
    · rw [List.getElem?_append_left (by omega)] at hy; exact h2 i y hy
    · rw [List.getElem?_append_right (by omega)] at hy
      have : i = n := by
        have := (List.getElem?_eq_some_iff.1 hy).1
        simp at this; omega
      subst this
      rw [h1, Nat.sub_self] at hy
      cases hy; exact hz

theorem addr_add2 (a : Addr) (x y : Nat) : (a.add x).add y = a.add (x + y) := by
  unfold Addr.add
  by_cases hx : x = 0
  · subst hx; simp
  · by_cases hy : y = 0
    · subst hy; simp
    · simp [hx, hy, Nat.add_assoc]
theorem addr_add {a : Addr} (h : a.spot = none) (q : Nat) : a.add q = ⟨a.block, a.off + q, none⟩ := by
  cases a; simp only at h; subst h
  unfold Addr.add
  split
  · rename_i h; subst h; simp
  · simp

/-- What is known of an object that an argument shows. -/
structure Shown (w : World) (k : EK) (l : List k.den) (g : Gh) (v : Value) : Prop where
  len : l.length ≤ maxLen
  wf : ∀ x ∈ l, wfE k x
  obj : ∀ m, ObRel m g w ⟨true, [.seq k 0 l]⟩
  blk : ∀ b, g.addr = some b → b.1 < w.heap.size
  rel : ∀ (m : GM) id, m[id]? = some g → LRel m (.full id) v

theorem ghOf_ln (b : Option (Nat × Nat)) (sz : Nat) (k : EK) (l : List k.den) : (ghOf b sz [.seq k 0 l]).ln 0 = l.length ∧ (ghOf b sz [.seq k 0 l]).ew 0 = k.w := by
  obtain ⟨h1, h2⟩ := ghOf_seq b sz [.seq k 0 l] 0 k 0 l [] (drop0 _)
  exact ⟨h1.symm, h2.symm⟩

theorem shown_none (w : World) (k : EK) {a : Option Addr} : Shown w k [] (ghOf none 0 [.seq k 0 []]) (.slice a 0 0) := by
  refine ⟨Nat.zero_le _, fun x hx => (by cases hx), fun m => ⟨ghOf_seq _ _ _, [], ⟨[], [], rfl, ⟨.inl rfl, rfl⟩, rfl⟩, .inl ⟨rfl, rfl⟩⟩, fun b hb => (by cases hb), fun m id hid => ?_⟩
  exact ⟨_, hid, _, a, 0, hid, by rw [(ghOf_ln none 0 k []).1]; rfl, by rw [(ghOf_ln none 0 k []).1]; simp, fun c h => (by cases h), by rw [(ghOf_ln none 0 k []).1]; simp, .inl rfl⟩

section
variable {P : Program} {H : Type} {enc : TypeId × Value → H} {w : World} {base : Nat} {spare : Nat → Bool} {held : Bool}

def Opn (m : GM) (sl : List SL) (cs : List Value) (ps : List MemPlace) : Prop := ∃ d : denL sl, OCells m (encL sl d) cs ∧ wfL sl d

theorem sc_open {e : TypeId} {k : EK} {fuel : Nat} {c : List Value} {x : DataW H × List MemPlace} (hk : scK P e = some k) (h : DataW.trod enc P w base spare held fuel e c = some x) :
    ∃ z : k.den, c = k.cv z ∧ wfE k z ∧ x.2 = [] := by
  unfold scK at hk
  split at hk
  · rename_i k' ht
    cases hk
    obtain ⟨n, rfl, rfl, hw⟩ := DataW.trod_int ht h
    exact ⟨n, rfl, hw, rfl⟩
  · rename_i ht
    cases hk
    obtain ⟨b, rfl, rfl⟩ := DataW.trod_bool ht h
    exact ⟨b, rfl, trivial, rfl⟩
  · rename_i ht
    cases hk
    obtain ⟨s, rfl, rfl, hs⟩ := DataW.trod_string ht h
    exact ⟨s, rfl, hs, rfl⟩
  · cases hk

theorem sc_list {e : TypeId} {k : EK} {fuel : Nat} (hk : scK P e = some k) : ∀ (n : Nat) (cs : List Value) (xs : List (DataW H × List MemPlace)), cs.length = n → xs.length = n →
    (∀ i, i < n → DataW.trod enc P w base spare held fuel e ((cs.drop i).take 1) = xs[i]?) → ∃ l : List k.den, cs = cvs k l ∧ l.length = n ∧ (∀ x ∈ l, wfE k x) ∧ xs.flatMap (·.2) = []
  | 0, cs, xs, hc, hx, _ => by
    have := List.eq_nil_of_length_eq_zero hc
    have h2 := List.eq_nil_of_length_eq_zero hx
    subst this; subst h2
    exact ⟨[], rfl, rfl, fun x hx => (by cases hx), rfl⟩
  | n + 1, [], xs, hc, hx, _ => by simp at hc
  | n + 1, c :: cs, [], hc, hx, _ => by simp at hx
  | n + 1, c :: cs, x :: xs, hc, hx, h => by
    have h0 := h 0 (by omega)
    simp only [List.drop_zero, List.take_succ_cons, List.take_zero, List.getElem?_cons_zero] at h0
    obtain ⟨z, hz, hw, hp⟩ := sc_open hk h0
    obtain ⟨l, h1, h2, h3, h4⟩ := sc_list hk n cs xs (by simpa using hc) (by simpa using hx) fun i hi => by simpa using h (i + 1) (by omega)
    refine ⟨z :: l, ?_, by simp [h2], fun y hy => ?_, by simp [hp, h4]⟩
    · rw [h1] ; simp only [cvs, ← hz]; rfl
    · rcases List.mem_cons.1 hy with rfl | hy
      · exact hw
      · exact h3 y hy

theorem slice_core {e t : TypeId} {k : EK} (ht : P.underlying t = some (.slice e)) (hc : P.cellsOf e = k.w) (el : ∀ n cs (x : DataW H × List MemPlace), DataW.trod enc P w 0 (fun _ => true) held n e cs = some x → ∃ z : k.den, cs = k.cv z ∧ wfE k z)
    {a0 : Option Addr} {n0 c0 fuel : Nat} {x : DataW H × List MemPlace} (hf : DataW.trod enc P w 0 (fun _ => true) held fuel t [.slice a0 n0 c0] = some x) :
    ∃ (l : List k.den) (g : Gh), Shown w k l g (.slice a0 n0 c0) := by
  rcases DataW.trod_slice ht hf with ⟨h1, _⟩ | ⟨a, len, cap, elems, rest, n, _, h1, hx, hb, hle, hmax, hlen, hel, hsp, _⟩
  · cases h1
    exact ⟨[], _, shown_none w k⟩
  · simp only [List.cons.injEq, Value.slice.injEq, and_true] at h1
    obtain ⟨rfl, rfl, rfl⟩ := h1
    obtain ⟨hrl, hr⟩ := hsp rfl
    by_cases hcap : c0 = 0
    · subst hcap
      have : n0 = 0 := by omega
      subst this
      exact ⟨[], _, shown_none w k⟩
    have each : ∀ i, i < c0 → ∃ z : k.den, wfE k z ∧ ∀ j, j < k.w → w.cell? (a.add (i * k.w + j)) = (k.cv z)[j]? := by
      intro i hi
      obtain ⟨y, hy⟩ : ∃ y, (w.cells? 0 (a.add (i * P.cellsOf e)) (P.cellsOf e)).bind (DataW.trod enc P w 0 (fun _ => true) held n e) = some y := by
        by_cases hil : i < n0
        · exact ⟨_, (hel i hil).trans (List.getElem?_eq_getElem (by omega))⟩
        · have h2 := hr (i - n0) (by omega)
          rw [show n0 + (i - n0) = i by omega] at h2
          exact ⟨_, h2.trans (List.getElem?_eq_getElem (by omega))⟩
      rw [hc, Option.bind_eq_some_iff] at hy
      obtain ⟨cs, hcs, hy⟩ := hy
      obtain ⟨z, hcv, hwz⟩ := el n cs _ hy
      obtain ⟨_, _, hget⟩ := World.cells?_some hcs
      refine ⟨z, hwz, fun j hj => ?_⟩
      have := hget j hj
      rw [hcv] at this
      rw [← this]
      have e9 : (a.add (i * k.w)).add j = a.add (i * k.w + j) := addr_add2 a _ _
      first | rw [e9] | rw [hc, e9]
    obtain ⟨l, hl1, hl2⟩ := pick_list (n := n0) (R := fun i z => wfE k z ∧ ∀ j, j < k.w → w.cell? (a.add (i * k.w + j)) = (k.cv z)[j]?) fun i hi => each i (by omega)
    have hwp := EK.w_pos k
    have cellOf : ∀ q, q < c0 * k.w → ∃ u, w.cell? (a.add q) = some u := by
      intro q hq
      have hdiv : q / k.w < c0 := Nat.div_lt_of_lt_mul (by rw [Nat.mul_comm]; exact hq)
      obtain ⟨z, _, hz⟩ := each (q / k.w) hdiv
      have h3 := hz (q % k.w) (Nat.mod_lt _ hwp)
      rw [Nat.mul_comm, Nat.div_add_mod] at h3
      have : q % k.w < (k.cv z).length := by rw [cv_length]; exact Nat.mod_lt _ hwp
      rw [List.getElem?_eq_getElem this] at h3
      exact ⟨_, h3⟩
    have hpos : 0 < c0 * k.w := Nat.mul_pos (by omega) hwp
    obtain ⟨blk, ty, fr, hblk, hspot, hget⟩ : ∃ blk ty fr, w.heap[a.block]? = some (.cells blk ty fr) ∧ a.spot = none ∧ ∀ q, w.cell? (a.add q) = blk[a.off + q]? := by
      obtain ⟨u, hu⟩ := cellOf 0 hpos
      rw [show a.add 0 = a by simp [Addr.add]] at hu
      unfold World.cell? at hu
      split at hu
      · rename_i c ty fr hh
        have hh' : w.heap[a.block]? = some (.cells c ty fr) := hh
        split at hu
        · cases hu
        · rename_i hsn
          have hsn' : a.spot = none := by
            cases hq : a.spot with
            | none => rfl
            | some _ => exact absurd (by simp [hq]) hsn
          refine ⟨c, ty, fr, hh', hsn', fun q => ?_⟩
          rw [addr_add hsn' q]
          unfold World.cell?
          simp only [hh']
          rfl
      · cases hu
    have hsize : a.off + c0 * k.w ≤ blk.size := by
      obtain ⟨u, hu⟩ := cellOf (c0 * k.w - 1) (by omega)
      rw [hget] at hu
      have := (Array.getElem?_eq_some_iff.1 hu).1
      omega
    obtain ⟨g1, g2⟩ := ghOf_ln (some (a.block, a.off)) blk.size k l
    have haddr : a = at_ (a.block, a.off) 0 := by
      cases a; simp only at hspot; subst hspot; simp [at_]
    have hcl : (cvs k l).length = n0 * k.w := by rw [cvs_length, hl1]
    have hmul : n0 * k.w ≤ c0 * k.w := Nat.mul_le_mul_right _ hle
    refine ⟨l, ghOf (some (a.block, a.off)) blk.size [.seq k 0 l], by omega, fun x hx => ?_, fun m => ⟨ghOf_seq _ _ _, cvs k l, ⟨cvs k l, [], (List.append_nil _).symm, ⟨.inl rfl, rfl⟩, rfl⟩, .inr ⟨(a.block, a.off), blk, ty, fr, rfl, hblk, rfl, ?_, fun j hj => ?_, fun h0 => by cases h0⟩⟩, fun b hb => ?_, fun m id hid => ?_⟩
    · obtain ⟨i, hi⟩ := List.getElem?_of_mem hx
      exact (hl2 i x hi).1
    · rw [hcl]; simp only [ghOf]; omega
    · rw [hcl] at hj
      have hdiv : j / k.w < n0 := Nat.div_lt_of_lt_mul (by rw [Nat.mul_comm]; exact hj)
      have hmod := Nat.mod_lt j hwp
      have h4 := (hl2 (j / k.w) (l.getD (j / k.w) k.zero) (by rw [List.getD_eq_getElem?_getD, List.getElem?_eq_getElem (by omega)]; rfl)).2 (j % k.w) hmod
      have h5 := cvs_getD k l (j / k.w) (by omega) (j % k.w) hmod
      rw [Nat.mul_comm, Nat.div_add_mod] at h4 h5
      rw [hget] at h4
      rw [h5]; exact h4
    · cases hb; exact (Array.getElem?_eq_some_iff.1 hblk).1
    · refine ⟨_, hid, _, some a, c0, hid, by rw [g1, hl1], by rw [g1]; omega, fun c h => (by cases h), by rw [g1]; simp, .inr ⟨(a.block, a.off), rfl, ?_, ?_⟩⟩
      · simp only [Nat.zero_mul, Nat.add_zero]; rw [← haddr]
      · rw [g2]; simp only [ghOf, Nat.zero_add, Nat.add_zero]; omega


/-- What an argument shows is memory that nothing turns. -/
theorem shown_fz {q : SK} {l : List q.ek.den} {g : Gh} {a0 : Option Addr} {n0 c0 : Nat} (h : Shown w q.ek l g (.slice a0 n0 c0)) : n0 = l.length ∧ FzW (Ctx.of w fun _ => False) a0 c0 (cvs q.ek l) := by
  have hrel := h.rel [g] 0 rfl
  obtain ⟨g1, hg1, g2, A, C, hg2, hv, hle, _, hln, hb⟩ := hrel
  cases hg1
  cases hg2
  cases hv
  obtain ⟨hsg, cs, hoc, hpl⟩ := h.obj []
  have hlen := (hsg 0 q.ek 0 l [] (drop0 _)).1
  have hew := (hsg 0 q.ek 0 l [] (drop0 _)).2
  obtain ⟨_, _, rfl, ⟨_, rfl⟩, rfl⟩ := hoc
  rw [List.append_nil] at hpl
  refine ⟨by rw [hlen], ?_⟩
  have hcl : (cvs q.ek l).length = l.length := by rw [cvs_length, ek_w, Nat.mul_one]
  rcases hb with hb | ⟨b, hb, hA, hsz⟩
  · refine .inl ⟨hb, ?_⟩
    have : l = [] := List.eq_nil_of_length_eq_zero (by omega)
    rw [this]; rfl
  · rcases hpl with ⟨_, h0⟩ | ⟨b', blk, t, fr, p1, p2, p3, p4, p5, _⟩
    · rw [hb] at h0; cases h0
    · rw [hb] at p1; cases p1
      rw [← hew, ek_w] at hsz
      refine .inr ⟨b, blk, t, fr, by rw [hA]; simp, p2, by omega, by omega, p5, fun h0 => h0⟩

theorem toL_inv (q : SK) (l : List q.ek.den) : ∃ d : List q.den, q.toL d = l := by
  cases q <;> exact ⟨l, rfl⟩

theorem wfS_toL {q : SK} {d : List q.den} (h : ∀ x ∈ q.toL d, wfE q.ek x) : ∀ x ∈ d, wfS q x := by
  cases q <;> exact h

theorem sc_ek {e : TypeId} {q : SK} (h : scS P e = some q) : scK P e = some q.ek := by
  unfold scS at h
  unfold scK
  split at h
  · rename_i k ht; cases h; simp only [ht]
  · rename_i ht; cases h; simp only [ht]
  · rename_i ht; cases h; simp only [ht]
  · cases h

theorem slFs_open {m : GM} {g : TypeId → Option (List SL)} {fuel : Nat} (ih : ∀ t sl cs (x : DataW H × List MemPlace), g t = some sl → DataW.trod enc P w base spare held fuel t cs = some x → Opn m sl cs x.2) :
    ∀ (fs : List Field) (off : Nat) (sl : List SL) (n : Nat) (cs : List Value) (xs : List (DataW H × List MemPlace)), slFs P g off fs = some (sl, n) → cs.length = n → xs.length = fs.length →
      (∀ (i : Nat) f, fs[i]? = some f → DataW.trod enc P w base spare held fuel f.type ((cs.drop f.offset).take (P.cellsOf f.type)) = xs[i]?) → Opn m sl (cs.drop off) (xs.flatMap (·.2))
  | [], off, sl, n, cs, xs, hs, hn, hx, _ => by
    simp only [slFs, Option.some.injEq, Prod.mk.injEq] at hs
    obtain ⟨rfl, rfl⟩ := hs
    have := List.eq_nil_of_length_eq_zero hx
    subst this
    exact ⟨(), by simp [encL, OCells, hn], trivial⟩
  | f :: fs, off, sl, n, cs, xs, hs, hn, hx, h => by
    simp only [slFs] at hs
    split at hs
    · rename_i hoff
      split at hs
      · rename_i a b n' ha hb
        simp only [Option.some.injEq, Prod.mk.injEq] at hs
        obtain ⟨rfl, rfl⟩ := hs
        cases xs with
        | nil => simp at hx
        | cons x xs =>
          have h0 := h 0 f rfl
          rw [hoff] at h0
          obtain ⟨d1, o1, w1⟩ := ih _ _ _ _ ha h0
          obtain ⟨d2, o2, w2⟩ := slFs_open ih fs _ _ _ cs xs hb hn (by simpa using hx) fun i f' hf => by simpa using h (i + 1) f' (by simpa using hf)
          refine ⟨appD _ _ d1 d2, ?_, wfL_app _ _ _ _ w1 w2⟩
          rw [encL_app]
          refine ocells_append.2 ⟨_, _, ?_, o1, o2⟩
          rw [← List.drop_drop, List.take_append_drop]
      · cases hs
    · cases hs

theorem slOf_open {m : GM} (hfz : ∀ a cap cs, FzW (Ctx.of w fun _ => False) a cap cs → FZ.ok a cap cs) : ∀ (f : Nat) (t : TypeId) (sl : List SL) (fuel : Nat) (cs : List Value) (x : DataW H × List MemPlace), slOf P f t = some sl →
    DataW.trod enc P w 0 (fun _ => true) held fuel t cs = some x → Opn m sl cs x.2
  | 0, t, sl, fuel, cs, x, hs, h => by simp [slOf] at hs
  | f + 1, t, sl, fuel, cs, x, hs, h => by
    simp only [slOf] at hs
    split at hs
    · rename_i k ht
      cases hs
      obtain ⟨n, rfl, rfl, hw⟩ := DataW.trod_int ht h
      exact ⟨(n, ()), ⟨[_], [], rfl, ⟨_, rfl, rfl⟩, rfl⟩, ⟨hw, trivial⟩⟩
    · rename_i ht
      cases hs
      obtain ⟨b, rfl, rfl⟩ := DataW.trod_bool ht h
      exact ⟨(b, ()), ⟨[_], [], rfl, ⟨_, rfl, rfl⟩, rfl⟩, ⟨trivial, trivial⟩⟩
    · rename_i ht
      cases hs
      obtain ⟨s, rfl, rfl, hw⟩ := DataW.trod_string ht h
      exact ⟨(s, ()), ⟨[_], [], rfl, ⟨_, rfl, rfl⟩, rfl⟩, ⟨hw, trivial⟩⟩
    · rename_i n e ht
      split at hs
      · rename_i k hk
        split at hs
        · rename_i h1
          cases hs
          obtain ⟨xs, mm, rfl, rfl, hc, hl, hall⟩ := DataW.trod_array ht h
          have hcn : cs.length = n := hc.trans h1.2
          obtain ⟨l, q1, q2, q3, q4⟩ := sc_list hk n cs xs hcn hl fun i hi => by
            have := hall i hi
            rw [h1.1, Nat.mul_one] at this
            exact this
          exact ⟨(l, ()), ⟨cs, [], by simp, ⟨.inr q2, q1⟩, rfl⟩, ⟨⟨q2, q3⟩, trivial⟩⟩
        · cases hs
      · cases hs
    · rename_i fs ht
      split at hs
      · rename_i l n hl
        split at hs
        · rename_i hn
          cases hs
          obtain ⟨xs, mm, rfl, rfl, hc, hx, hall⟩ := DataW.trod_struct ht h
          have := slFs_open (m := m) (fun t sl cs x hs h => slOf_open hfz f t sl mm cs x hs h) fs.toList 0 _ _ cs xs hl (hc.trans hn.symm) (by simpa using hx) fun i f' hf => hall i f' (by simpa using hf)
          simpa using this
        · cases hs
      · cases hs
    · rename_i e ht
      split at hs
      · rename_i q hq
        split at hs
        · rename_i h1
          cases hs
          have hv : ∃ a0 n0 c0, cs = [.slice a0 n0 c0] := by
            rcases DataW.trod_slice ht h with ⟨h2, _⟩ | ⟨a, len, cap, elems, rest, n, _, h2, _⟩
            · exact ⟨_, _, _, h2⟩
            · exact ⟨_, _, _, h2⟩
          obtain ⟨a0, n0, c0, rfl⟩ := hv
          obtain ⟨l, g, hsh⟩ := slice_core (k := q.ek) ht (h1.trans (ek_w q).symm) (fun n cs x hx => let ⟨z, z1, z2, _⟩ := sc_open (sc_ek hq) hx; ⟨z, z1, z2⟩) h
          obtain ⟨h3, h4⟩ := shown_fz hsh
          obtain ⟨dd, rfl⟩ := toL_inv q l
          rw [toL_cvs] at h4
          rw [toL_length] at h3
          refine ⟨(⟨a0, c0, dd, .inr (hfz _ _ _ h4)⟩, ()), ⟨[_], [], rfl, ⟨_, rfl, ?_⟩, rfl⟩, ⟨⟨?_, wfS_toL hsh.wf⟩, trivial⟩⟩
          · rw [h3]; rfl
          · have := hsh.len; rw [toL_length] at this; exact this
        · cases hs
      · cases hs
    · cases hs

/-- One argument without memory of its own, of several cells. -/
theorem arg_agg (hfz : ∀ a cap cs, FzW (Ctx.of w fun _ => False) a cap cs → FZ.ok a cap cs) {m : GM} {r : Reach} {b0 : Nat} {t : TypeId} {v : Value} {d : DataW H} {ps : List MemPlace} {sl : List SL} (hs : slOf P 8 t = some sl) (hag : isAggT P t = true) (hv : Value.okWide P w r b0 t v)
    (h : DataW.Trod enc P w 0 (fun _ => true) held t v d ps) : ∃ y : denL sl, TVRel m (.agg (encL sl y)) v ∧ wfL sl y := by
  obtain ⟨fuel, hf⟩ := h
  obtain ⟨y, h1, h2⟩ := slOf_open (m := m) hfz _ _ _ _ _ _ hs hf
  have : ∃ cs, v = .agg cs := by
    unfold isAggT at hag
    unfold Value.okWide at hv
    split at hag
    · rename_i fs ht
      rw [ht] at hv
      obtain ⟨cs, h, _⟩ := hv
      exact ⟨cs, h⟩
    · rename_i n e ht
      rw [ht] at hv
      obtain ⟨cs, h, _⟩ := hv
      exact ⟨cs, h⟩
    · cases hag
  obtain ⟨cs, rfl⟩ := this
  exact ⟨y, ⟨cs, rfl, h1⟩, h2⟩

theorem arg_int {r : Reach} {b0 : Nat} {t : TypeId} {k : IntKind} {v : Value} {d : DataW H} {ps : List MemPlace} (ht : P.underlying t = some (.int k)) (hv : Value.okWide P w r b0 t v)
    (h : DataW.Trod enc P w base spare held t v d ps) : ∃ n, v = .int k n ∧ (Lit.int k n).wf = true ∧ ps = [] := by
  obtain ⟨n, rfl⟩ := Go.WideShapes.okWide_int ht hv
  obtain ⟨fuel, hf⟩ := h
  obtain ⟨n', h1, h2, h3⟩ := DataW.trod_int ht hf
  simp [Value.cells] at h1
  subst h1
  exact ⟨n, rfl, h3, congrArg (·.2) h2⟩

theorem arg_bool {r : Reach} {b0 : Nat} {t : TypeId} {v : Value} {d : DataW H} {ps : List MemPlace} (ht : P.underlying t = some .bool) (hv : Value.okWide P w r b0 t v)
    (h : DataW.Trod enc P w base spare held t v d ps) : ∃ b, v = .bool b ∧ ps = [] := by
  obtain ⟨b, rfl⟩ := Go.WideShapes.okWide_bool ht hv
  obtain ⟨fuel, hf⟩ := h
  obtain ⟨b', h1, h2⟩ := DataW.trod_bool ht hf
  exact ⟨b, rfl, congrArg (·.2) h2⟩

theorem arg_str {r : Reach} {b0 : Nat} {t : TypeId} {v : Value} {d : DataW H} {ps : List MemPlace} (ht : P.underlying t = some .string) (hv : Value.okWide P w r b0 t v)
    (h : DataW.Trod enc P w base spare held t v d ps) : ∃ s, v = .string s ∧ s.size ≤ maxLen ∧ ps = [] := by
  obtain ⟨s, rfl⟩ := Go.WideShapes.okWide_string ht hv
  obtain ⟨fuel, hf⟩ := h
  obtain ⟨s', h1, h2, h3⟩ := DataW.trod_string ht hf
  simp [Value.cells] at h1
  subst h1
  exact ⟨s, rfl, h3, congrArg (·.2) h2⟩

theorem trodAll_below (hl : laidOutB P = true) {W W' : World} (hb : Below W.heap.size W W') : ∀ {ts : List TypeId} {vs : List Value} {ds : List (DataW H)} {ps : List MemPlace},
    (∀ t ∈ ts, P.readableRec t = true ∧ t < P.types.size) → DataW.TrodAll enc P W 0 (fun _ => true) true ts vs ds ps → (∀ x ∈ ps, x.block < W.heap.size) →
    DataW.TrodAll enc P W' 0 (fun b => decide (b < W.heap.size)) true ts vs ds ps
  | [], [], [], ps, _, h, _ => h
  | t :: ts, v :: vs, d :: ds, ps, hr, ⟨p, q, h1, h2, h3⟩, hlt => by
    subst h3
    exact ⟨p, q, Go.RowKit.Below.trod hl (hr t (by simp)).1 (hr t (by simp)).2 h1 hb (fun x hx => hlt x (by simp [hx])), trodAll_below hl hb (fun t ht => hr t (by simp [ht])) h2 (fun x hx => hlt x (by simp [hx])), rfl⟩
  | [], _ :: _, _, _, _, h, _ => h.elim
  | [], [], _ :: _, _, _, h, _ => h.elim
  | _ :: _, [], _, _, _, h, _ => h.elim
  | _ :: _, _ :: _, [], _, _, h, _ => h.elim

theorem Ext.below {w w' : World} (h : Ext w w') : Below w.heap.size w w' := ⟨h.str.1, h.str.2.1, h.str.2.2, h.size, fun k hk => h.block k hk⟩

/-- No objects. -/
theorem inv_nil (hfz : ∀ a cap cs, FZ.ok a cap cs → FzW (Ctx.of w fun _ => False) a cap cs) : Inv (Ctx.of w fun _ => False) [] [] w :=
  ⟨rfl, fun id ob g h => by simp [hget] at h, fun id ob g b h => by simp [hget] at h, fun i j oi oj gi gj b c _ h => by simp [hget] at h, Str.refl w, Nat.le_refl _, fun _ _ _ => rfl, hfz, fun x hx => by cases hx⟩

end
end Go.Proofs.YtillbabmlfjegaaGreatDoor.Ev
end

section
/- A row's arguments, opened as typed values: slices, which are lent for reading. -/
namespace Go.Proofs.YtillbabmlfjegaaGreatDoor.Ev
open Go Go.RowKit
set_option linter.unusedVariables false
set_option linter.unusedSimpArgs false
set_option linter.unusedSectionVars false
variable [FZ]

section
variable {P : Program} {H : Type} {enc : TypeId × Value → H} {w : World} {held : Bool}

theorem open_slice (hfz : ∀ a cap cs, FzW (Ctx.of w fun _ => False) a cap cs → FZ.ok a cap cs) {e t : TypeId} {sl : List SL} {k : EK} (conv : denL sl → k.den) (ht : P.underlying t = some (.slice e)) (hs : slOf P 8 e = some sl) (hc : P.cellsOf e = k.w) (hconv : ∀ y, k.of1 (encL sl y) = some (conv y))
    (hwf : ∀ y, wfL sl y → wfE k (conv y)) {r : Reach} {b0 : Nat} {v : Value} {d : DataW H} {ps : List MemPlace} (hv : Value.okWide P w r b0 t v) (h : DataW.Trod enc P w 0 (fun _ => true) held t v d ps) :
    ∃ (l : List k.den) (g : Gh), Shown w k l g v := by
  obtain ⟨a0, n0, c0, rfl⟩ := Go.WideShapes.okWide_slice ht hv
  obtain ⟨fuel, hf⟩ := h
  exact slice_core ht hc (fun n cs x hx => by
    obtain ⟨d', o1, o2⟩ := slOf_open (m := []) hfz 8 e sl n cs x hs hx
    exact ⟨conv d', of1_cells k (hconv d') o1, hwf d' o2⟩) hf

/-- Arguments that are lent. -/
theorem inv_shown {m : GM} {h : Heap} (hfz : ∀ a cap cs, FZ.ok a cap cs → FzW (Ctx.of w fun _ => False) a cap cs) (hl : m.length = h.length) (hq : ∀ (i : Nat) ob g, hget h i = some ob → m[i]? = some g → ob.ro = true ∧ ObRel m g w ob ∧ ∀ b, g.addr = some b → b.1 < w.heap.size) :
    Inv (Ctx.of w fun _ => False) m h w :=
  ⟨hl, fun id ob g h1 h2 => (hq id ob g h1 h2).2.1, fun id ob g b h1 h2 h3 => by rw [(hq id ob g h1 h2).1]; exact ⟨fun h => h, (hq id ob g h1 h2).2.2 b h3, trivial⟩,
   fun i j oi oj gi gj b c _ h1 h2 h3 _ h5 h6 => (by rw [(hq i oi gi h1 h5).1] at h3; cases h3), Str.refl w, Nat.le_refl _, fun _ _ _ => rfl, hfz, fun x hx => by cases hx⟩

theorem inv_cons {m : GM} {h : Heap} {k : EK} {l : List k.den} {g : Gh} {v : Value} (hi : Inv (Ctx.of w fun _ => False) m h w) (hro : ∀ (i : Nat) ob, hget h i = some ob → ob.ro = true) (hs : Shown w k l g v) :
    Inv (Ctx.of w fun _ => False) (m ++ [g]) (h ++ [some ⟨true, [.seq k 0 l]⟩]) w ∧ (∀ (i : Nat) ob, hget (h ++ [some ⟨true, [.seq k 0 l]⟩]) i = some ob → ob.ro = true) ∧ LRel (m ++ [g]) (.full h.length) v := by
  have hro' : ∀ (i : Nat) ob, hget (h ++ [some ⟨true, [.seq k 0 l]⟩]) i = some ob → ob.ro = true := by
    intro i ob h1
    rcases hget_app h1 with ⟨_, h2⟩ | ⟨_, h2⟩
    · exact hro i ob h2
    · cases h2; rfl
  refine ⟨inv_shown hi.fz (by simp [hi.len]) fun i ob g' h1 h2 => ⟨hro' i ob h1, ?_⟩, hro', ?_⟩
  · rcases hget_app h1 with ⟨hlt, h3⟩ | ⟨rfl, h3⟩
    · have h4 := gm_app_old (by rw [hi.len]; exact hlt) h2
      obtain ⟨o1, cs, o2, o3⟩ := hi.obs i ob g' h3 h4
      exact ⟨⟨o1, cs, o2.mono (pre_append _ _), o3⟩, fun b hb => hi.block_lt h3 h4 hb⟩
    · cases h3
      have : (m ++ [g])[h.length]? = some g := by rw [← hi.len]; exact gm_app_new
      rw [this] at h2; cases h2
      exact ⟨hs.obj _, hs.blk⟩
  · exact hs.rel _ _ (by rw [← hi.len]; exact gm_app_new)

end
end Go.Proofs.YtillbabmlfjegaaGreatDoor.Ev
end

section
/- strings.Trim: the contract of the kit, at this program. -/
namespace Go.Proofs.YtillbabmlfjegaaGreatDoor.X
open Go Go.Proofs.YtillbabmlfjegaaGreatDoor.Ev Go.Proofs Go.Shelf Go.RowKit
set_option linter.unusedVariables false
def trmRen : Go.Shelf.Ren := ⟨fun x => match x with | 160 => 68 | 232 => 79 | 231 => 78 | 227 => 80 | 234 => 82 | 233 => 81 | 236 => 84 | 235 => 83 | 228 => 90 | 271 => 93 | 151 => 92 | 197 => 91 | 120 => 99 | 152 => 98 | 260 => 97 | 137 => 101 | 119 => 102 | 224 => 103 | 225 => 104 | 217 => 105 | 266 => 106 | n => n, fun x => match x with | 9 => 9 | 4 => 4 | 3 => 3 | 5 => 5 | 117 => 123 | 116 => 122 | 0 => 0 | 124 => 126 | 21 => 21 | 105 => 130 | 46 => 82 | 119 => 139 | 139 => 142 | 138 => 141 | n => n, fun x => match x with | 3 => 1 | 4 => 2 | n => n⟩
theorem trmLays : Lays.n160 Tryz.prog trmRen where
  mixed := by kernel_rfl
  f119 := Tryz.func102.trans (congrArg some (by kernel_rfl))
  f120 := Tryz.func99.trans (congrArg some (by kernel_rfl))
  f137 := Tryz.func101.trans (congrArg some (by kernel_rfl))
  f151 := Tryz.func92.trans (congrArg some (by kernel_rfl))
  f152 := Tryz.func98.trans (congrArg some (by kernel_rfl))
  f160 := Tryz.func68.trans (congrArg some (by kernel_rfl))
  f197 := Tryz.func91.trans (congrArg some (by kernel_rfl))
  f217 := Tryz.func105.trans (congrArg some (by kernel_rfl))
  f224 := Tryz.func103.trans (congrArg some (by kernel_rfl))
  f225 := Tryz.func104.trans (congrArg some (by kernel_rfl))
  f227 := Tryz.func80.trans (congrArg some (by kernel_rfl))
  f228 := Tryz.func90.trans (congrArg some (by kernel_rfl))
  f231 := Tryz.func78.trans (congrArg some (by kernel_rfl))
  f232 := Tryz.func79.trans (congrArg some (by kernel_rfl))
  f233 := Tryz.func81.trans (congrArg some (by kernel_rfl))
  f234 := Tryz.func82.trans (congrArg some (by kernel_rfl))
  f235 := Tryz.func83.trans (congrArg some (by kernel_rfl))
  f236 := Tryz.func84.trans (congrArg some (by kernel_rfl))
  f260 := Tryz.func97.trans (congrArg some (by kernel_rfl))
  f266 := Tryz.func106.trans (congrArg some (by kernel_rfl))
  f271 := Tryz.func93.trans (congrArg some (by kernel_rfl))
  t0 := Tryz.underlying0
  a0 := Tryz.isAgg0
  z0 := Tryz.sizeOf0
  v0 := Tryz.zeroValue0
  t3 := Tryz.underlying3
  a3 := Tryz.isAgg3
  z3 := Tryz.sizeOf3
  v3 := Tryz.zeroValue3
  t4 := Tryz.underlying4
  a4 := Tryz.isAgg4
  z4 := Tryz.sizeOf4
  v4 := Tryz.zeroValue4
  t5 := Tryz.underlying5
  a5 := Tryz.isAgg5
  z5 := Tryz.sizeOf5
  v5 := Tryz.zeroValue5
  t9 := Tryz.underlying9
  a9 := Tryz.isAgg9
  z9 := Tryz.sizeOf9
  v9 := Tryz.zeroValue9
  t21 := Tryz.underlying21
  a21 := Tryz.isAgg21
  z21 := Tryz.sizeOf21
  v21 := Tryz.zeroValue21
  t46 := Tryz.underlying82
  a46 := Tryz.isAgg82
  z46 := Tryz.sizeOf82
  v46 := Tryz.zeroValue82
  t105 := Tryz.underlying130
  a105 := Tryz.isAgg130
  z105 := Tryz.sizeOf130
  v105 := Tryz.zeroValue130
  t116 := Tryz.underlying122
  a116 := Tryz.isAgg122
  z116 := Tryz.sizeOf122
  t117 := Tryz.underlying123
  a117 := Tryz.isAgg123
  z117 := Tryz.sizeOf123
  v117 := Tryz.zeroValue123
  t119 := Tryz.underlying139
  a119 := Tryz.isAgg139
  z119 := Tryz.sizeOf139
  t124 := Tryz.underlying126
  a124 := Tryz.isAgg126
  z124 := Tryz.sizeOf126
  v124 := Tryz.zeroValue126
  t138 := Tryz.underlying141
  a138 := Tryz.isAgg141
  z138 := Tryz.sizeOf141
  v138 := Tryz.zeroValue141
  t139 := Tryz.underlying142
  a139 := Tryz.isAgg142
  z139 := Tryz.sizeOf142
  v139 := Tryz.zeroValue142
  g3 := by kernel_rfl
  g4 := by kernel_rfl
end Go.Proofs.YtillbabmlfjegaaGreatDoor.X
end

section
/- strings.Trim: its contract, as a typed function. -/
namespace Go.Proofs.YtillbabmlfjegaaGreatDoor.X
open Go Go.Proofs.YtillbabmlfjegaaGreatDoor.Ev Go.Proofs
set_option linter.unusedVariables false
set_option linter.unusedSimpArgs false
set_option linter.unusedSectionVars false
variable [FZ]

/-- A string without the bytes of a set at its ends. -/
noncomputable def trm (s cs : ByteArray) : ByteArray := ⟨(Lib.trimS s.data.toList cs.data.toList).toArray⟩
noncomputable def f68_1 {β : Type} (F : Nat) (a1 : ByteArray) (a2 : ByteArray) (K0 : ByteArray → Option β) : Option β :=
  cond (decide (a1.size ≤ 9223372036854775807 ∧ a2.size < 4294967281 ∧ a2.data.toList.all (fun b => decide (b.toNat < 128)) = true)) (K0 (trm a1 a2)) none
def sh68_1 : Sh := ⟨[.lf (.str), .lf (.str)], []⟩
noncomputable def S68_1 (F : Nat) (o : Summ) : Summ := mkS sh68_1 (fun d K => f68_1 F d.1.1 d.1.2.1 (fun (y0 : ByteArray) => K [.lf (.str y0)] [])) o
theorem enter68 : ∀ args w, (callFunc 68 args).run Tryz.prog w = .ok (.enter 68 args) w := enter_of (fn := Tryz.f68) (by kernel_rfl) (by kernel_rfl) (by kernel_rfl)
theorem trmNum : trmRen.f 160 = 68 := by kernel_rfl

theorem trmB {s cs : ByteArray} (h : s.size ≤ 9223372036854775807 ∧ cs.size < 4294967281 ∧ cs.data.toList.all (fun b => decide (b.toNat < 128)) = true) {K : KF} {r : Res} (he : K [.lf (.str (trm s cs))] [] = some r) :
    Contract Tryz.prog 68 [.lf (.str s), .lf (.str cs)] [] K r := by
  intro G m w cvs hw hgd hgh hi hx
  obtain ⟨v1, v2, rfl, h1, h2⟩ : ∃ v1 v2, cvs = [v1, v2] ∧ v1 = .string s ∧ v2 = .string cs := by
    match cvs, hx with
    | [v1, v2], ⟨h1, h2, _⟩ => exact ⟨v1, v2, rfl, h1, h2⟩
  subst h1 h2
  have := Any.strings_Trim_laid trmLays (by kernel_rfl) s cs w h.1 h.2.1 (ascii_of_all h.2.2)
  rw [trmNum] at this
  refine this.mono fun e w' ⟨h1, h2⟩ => ?_
  have hext : Ext w w' := ⟨⟨h2.os, h2.tape, h2.output⟩, h2.size, h2.block⟩
  exact ⟨_, _, he, _, [], h1, rfl, by rw [List.append_nil]; exact hi.ext hext⟩

theorem S68_1_ok (F : Nat) (o : Summ) (ho : SoundFn Tryz.prog 68 o) : SoundFn Tryz.prog 68 (S68_1 F o) := by
  refine ⟨ho.enter, fun vs h K r he => ?_⟩
  unfold S68_1 mkS at he
  split at he
  rotate_left
  · exact ho.ok vs h K r he
  rename_i dv dh ha hb'
  have e1 := decT_enc _ _ _ ha
  have e2 := decH_enc _ _ _ hb'
  obtain ⟨s, c, _⟩ := dv
  have e1 : vs = [.lf (.str s), .lf (.str c)] := e1
  have e2 : h = [] := e2
  subst e1
  subst e2
  have he : f68_1 F s c (fun (y0 : ByteArray) => K [.lf (.str y0)] []) = some r := he
  unfold f68_1 at he
  obtain ⟨h1, he⟩ := dec_of he
  exact trmB h1 he

end Go.Proofs.YtillbabmlfjegaaGreatDoor.X
end

section
namespace Go.Proofs.YtillbabmlfjegaaGreatDoor.X
open Go Go.Proofs.YtillbabmlfjegaaGreatDoor.Ev Go.Proofs
set_option linter.unusedVariables false
set_option linter.unusedSectionVars false
/-! rec.Kind -/
noncomputable def f51_1 {β : Type} (F : Nat) (a1 : ByteArray) (K0 : Int → Int → Option β) : Option β := f26_1 F a1 (fun x1 => cond (!x1) (K0 0 4) (cond (decide ((0 : Int) ≤ (60 : Int) ∧ (60 : Int) ≤ (a1.size : Int) ∧ (a1.size : Int) ≤ (a1.size : Int))) (f59_1 F a1 (fun x2 => cond (!(x2.toList == (a1.extract 60 ((a1.size : Int).toNat)).toList)) (K0 0 9) (cond (decide ((0 : Int) ≤ (0 : Int) ∧ (0 : Int) < (a1.size : Int))) (cond (decide ((0 : Int) ≤ (1 : Int) ∧ (1 : Int) < (a1.size : Int))) (cond (decide (IntKind.i64.wrap ((a1.data.getD 0 0).toNat : Int) < 1)) (K0 0 6) (cond (decide (IntKind.i64.wrap ((a1.data.getD 0 0).toNat : Int) > 8)) (K0 0 6) (cond (decide (IntKind.i64.wrap ((a1.data.getD 1 0).toNat : Int) > 58)) (K0 0 6) (cond (decide ((0 : Int) ≤ IntKind.i64.wrap (2 + (IntKind.i64.wrap ((a1.data.getD 1 0).toNat : Int))) ∧ IntKind.i64.wrap (2 + (IntKind.i64.wrap ((a1.data.getD 1 0).toNat : Int))) ≤ (60 : Int) ∧ (60 : Int) ≤ (a1.size : Int))) (f68_1 F (a1.extract ((IntKind.i64.wrap (2 + (IntKind.i64.wrap ((a1.data.getD 1 0).toNat : Int)))).toNat) 60) (⟨#[0]⟩ : ByteArray) (fun x3 => cond (!(x3.toList == ByteArray.empty.toList)) (K0 0 6) (K0 (IntKind.i64.wrap ((a1.data.getD 0 0).toNat : Int)) 0)) ) none)))) none) none)) ) none)) 
variable [FZ]
def sh51_1 : Sh := ⟨[.lf (.str)], []⟩
noncomputable def S51_1 (F : Nat) (o : Summ) : Summ := mkS sh51_1 (fun d K => f51_1 F d.1.1 (fun (y0 : Int) (y1 : Int) => K [.lf (.int .i64 y0), .lf (.int .i64 y1)] [])) o
noncomputable def code51 : Code := bodyOf Tryz.f51
theorem scopes51 : scopesOf code51 = [] := by kernel_rfl
theorem ranges51 : rangesOf code51 = [] := by kernel_rfl
theorem loops51 : loopsOf code51 = [] := by kernel_rfl
theorem enter51 : ∀ args w, (callFunc 51 args).run Tryz.prog w = .ok (.enter 51 args) w := enter_of (fn := Tryz.f51) (by kernel_rfl) (by kernel_rfl) (by kernel_rfl)
noncomputable def T51_1 (F : Nat) : FuncId → Option Summ := tab [(26, (S26_1 F noS)), (59, (S59_1 F noS)), (68, (S68_1 F noS))]
noncomputable def LT51_1 (F : Nat) : Nat → Option LoopS := ltab []
theorem E51_1g (F : Nat) (c26_1 : ByteArray → (Bool → Option Res) → Option Res) (c59_1 : ByteArray → (ByteArray → Option Res) → Option Res) (c68_1 : ByteArray → ByteArray → (ByteArray → Option Res) → Option Res)   (d : sh51_1.den) (K : KF) : evBody Tryz.prog (tab [(26, (mkS sh26_1 (fun d K => c26_1 d.1.1 (fun (y0 : Bool) => K [.lf (.bool y0)] [])) noS)), (59, (mkS sh59_1 (fun d K => c59_1 d.1.1 (fun (y0 : ByteArray) => K [.lf (.str y0)] [])) noS)), (68, (mkS sh68_1 (fun d K => c68_1 d.1.1 d.1.2.1 (fun (y0 : ByteArray) => K [.lf (.str y0)] [])) noS))]) (xw []) 41 0 (ltab []) [] code51 Tryz.f51.results.toList (encT sh51_1.vs d.1) (encH sh51_1.h d.2) K = (fun (a1 : ByteArray) (K0 : (Int → Int → Option Res)) => c26_1 a1 (fun x1 => cond (!x1) (K0 0 4) (cond (decide ((0 : Int) ≤ (60 : Int) ∧ (60 : Int) ≤ (a1.size : Int) ∧ (a1.size : Int) ≤ (a1.size : Int))) (c59_1 a1 (fun x2 => cond (!(x2.toList == (a1.extract 60 ((a1.size : Int).toNat)).toList)) (K0 0 9) (cond (decide ((0 : Int) ≤ (0 : Int) ∧ (0 : Int) < (a1.size : Int))) (cond (decide ((0 : Int) ≤ (1 : Int) ∧ (1 : Int) < (a1.size : Int))) (cond (decide (IntKind.i64.wrap ((a1.data.getD 0 0).toNat : Int) < 1)) (K0 0 6) (cond (decide (IntKind.i64.wrap ((a1.data.getD 0 0).toNat : Int) > 8)) (K0 0 6) (cond (decide (IntKind.i64.wrap ((a1.data.getD 1 0).toNat : Int) > 58)) (K0 0 6) (cond (decide ((0 : Int) ≤ IntKind.i64.wrap (2 + (IntKind.i64.wrap ((a1.data.getD 1 0).toNat : Int))) ∧ IntKind.i64.wrap (2 + (IntKind.i64.wrap ((a1.data.getD 1 0).toNat : Int))) ≤ (60 : Int) ∧ (60 : Int) ≤ (a1.size : Int))) (c68_1 (a1.extract ((IntKind.i64.wrap (2 + (IntKind.i64.wrap ((a1.data.getD 1 0).toNat : Int)))).toNat) 60) (⟨#[0]⟩ : ByteArray) (fun x3 => cond (!(x3.toList == ByteArray.empty.toList)) (K0 0 6) (K0 (IntKind.i64.wrap ((a1.data.getD 0 0).toNat : Int)) 0)) ) none)))) none) none)) ) none)) ) d.1.1 (fun (y0 : Int) (y1 : Int) => K [.lf (.int .i64 y0), .lf (.int .i64 y1)] []) := by kernel_rfl
theorem E51_1 (F : Nat) (d : sh51_1.den) (K : KF) : evBody Tryz.prog (T51_1 F) (xw []) 41 0 (LT51_1 F) [] code51 Tryz.f51.results.toList (encT sh51_1.vs d.1) (encH sh51_1.h d.2) K = f51_1 F d.1.1 (fun (y0 : Int) (y1 : Int) => K [.lf (.int .i64 y0), .lf (.int .i64 y1)] []) := Eq.mp (by kernel_rfl) (E51_1g F (f26_1 F) (f59_1 F) (f68_1 F)   d K)
theorem S51_1_ok (F : Nat) (o : Summ) (ho : SoundFn Tryz.prog 51 o) : SoundFn Tryz.prog 51 (S51_1 F o) :=
  soundFn_of (fn := Tryz.f51) (c := code51) rfl rfl (by kernel_rfl) (tab_cons (S26_1_ok F _ (noS_sound enter26)) (tab_cons (S59_1_ok F _ (noS_sound enter59)) (tab_cons (S68_1_ok F _ (noS_sound enter68)) tab_nil))) (by kernel_rfl) (by kernel_rfl) ho (by rw [loops51]; exact loopsOK_nil) (by rw [scopes51]; exact scopesOK_nil) (by rw [ranges51]; exact rangesOK_nil) (E51_1 F)
end Go.Proofs.YtillbabmlfjegaaGreatDoor.X
end

section
namespace Go.Proofs.YtillbabmlfjegaaGreatDoor.X
open Go Go.Proofs.YtillbabmlfjegaaGreatDoor.Ev Go.Proofs
set_option linter.unusedVariables false
set_option linter.unusedSectionVars false
/-! rec.Open -/
noncomputable def f31_1 {β : Type} (F : Nat) (a1 : Int) (a2 : ByteArray) (K0 : ByteArray → Int → Option β) : Option β := f51_1 F a2 (fun x1 x2 => cond (x2 != 0) (K0 ByteArray.empty x2) (cond (x1 != a1) (K0 ByteArray.empty 22) (cond (decide ((0 : Int) ≤ (1 : Int) ∧ (1 : Int) < (a2.size : Int))) (cond (decide ((0 : Int) ≤ (2 : Int) ∧ (2 : Int) ≤ IntKind.i64.wrap (2 + (IntKind.i64.wrap ((a2.data.getD 1 0).toNat : Int))) ∧ IntKind.i64.wrap (2 + (IntKind.i64.wrap ((a2.data.getD 1 0).toNat : Int))) ≤ (a2.size : Int))) (K0 (a2.extract 2 ((IntKind.i64.wrap (2 + (IntKind.i64.wrap ((a2.data.getD 1 0).toNat : Int)))).toNat)) 0) none) none))) 
variable [FZ]
def sh31_1 : Sh := ⟨[.lf (.int .i64), .lf (.str)], []⟩
noncomputable def S31_1 (F : Nat) (o : Summ) : Summ := mkS sh31_1 (fun d K => f31_1 F d.1.1 d.1.2.1 (fun (y0 : ByteArray) (y1 : Int) => K [.lf (.str y0), .lf (.int .i64 y1)] [])) o
noncomputable def code31 : Code := bodyOf Tryz.f31
theorem scopes31 : scopesOf code31 = [] := by kernel_rfl
theorem ranges31 : rangesOf code31 = [] := by kernel_rfl
theorem loops31 : loopsOf code31 = [] := by kernel_rfl
theorem enter31 : ∀ args w, (callFunc 31 args).run Tryz.prog w = .ok (.enter 31 args) w := enter_of (fn := Tryz.f31) (by kernel_rfl) (by kernel_rfl) (by kernel_rfl)
noncomputable def T31_1 (F : Nat) : FuncId → Option Summ := tab [(51, (S51_1 F noS))]
noncomputable def LT31_1 (F : Nat) : Nat → Option LoopS := ltab []
theorem E31_1g (F : Nat) (c51_1 : ByteArray → (Int → Int → Option Res) → Option Res)   (d : sh31_1.den) (K : KF) : evBody Tryz.prog (tab [(51, (mkS sh51_1 (fun d K => c51_1 d.1.1 (fun (y0 : Int) (y1 : Int) => K [.lf (.int .i64 y0), .lf (.int .i64 y1)] [])) noS))]) (xw []) 27 0 (ltab []) [] code31 Tryz.f31.results.toList (encT sh31_1.vs d.1) (encH sh31_1.h d.2) K = (fun (a1 : Int) (a2 : ByteArray) (K0 : (ByteArray → Int → Option Res)) => c51_1 a2 (fun x1 x2 => cond (x2 != 0) (K0 ByteArray.empty x2) (cond (x1 != a1) (K0 ByteArray.empty 22) (cond (decide ((0 : Int) ≤ (1 : Int) ∧ (1 : Int) < (a2.size : Int))) (cond (decide ((0 : Int) ≤ (2 : Int) ∧ (2 : Int) ≤ IntKind.i64.wrap (2 + (IntKind.i64.wrap ((a2.data.getD 1 0).toNat : Int))) ∧ IntKind.i64.wrap (2 + (IntKind.i64.wrap ((a2.data.getD 1 0).toNat : Int))) ≤ (a2.size : Int))) (K0 (a2.extract 2 ((IntKind.i64.wrap (2 + (IntKind.i64.wrap ((a2.data.getD 1 0).toNat : Int)))).toNat)) 0) none) none))) ) d.1.1 d.1.2.1 (fun (y0 : ByteArray) (y1 : Int) => K [.lf (.str y0), .lf (.int .i64 y1)] []) := by kernel_rfl
theorem E31_1 (F : Nat) (d : sh31_1.den) (K : KF) : evBody Tryz.prog (T31_1 F) (xw []) 27 0 (LT31_1 F) [] code31 Tryz.f31.results.toList (encT sh31_1.vs d.1) (encH sh31_1.h d.2) K = f31_1 F d.1.1 d.1.2.1 (fun (y0 : ByteArray) (y1 : Int) => K [.lf (.str y0), .lf (.int .i64 y1)] []) := Eq.mp (by kernel_rfl) (E31_1g F (f51_1 F)   d K)
theorem S31_1_ok (F : Nat) (o : Summ) (ho : SoundFn Tryz.prog 31 o) : SoundFn Tryz.prog 31 (S31_1 F o) :=
  soundFn_of (fn := Tryz.f31) (c := code31) rfl rfl (by kernel_rfl) (tab_cons (S51_1_ok F _ (noS_sound enter51)) tab_nil) (by kernel_rfl) (by kernel_rfl) ho (by rw [loops31]; exact loopsOK_nil) (by rw [scopes31]; exact scopesOK_nil) (by rw [ranges31]; exact rangesOK_nil) (E31_1 F)
end Go.Proofs.YtillbabmlfjegaaGreatDoor.X
end

section
namespace Go.Proofs.YtillbabmlfjegaaGreatDoor.X
open Go Go.Proofs.YtillbabmlfjegaaGreatDoor.Ev Go.Proofs
set_option linter.unusedVariables false
set_option linter.unusedSectionVars false
/-! word.New -/
noncomputable def f52_1 {β : Type} (F : Nat) (a1 : List Int) (K0 : List Int → Option β) : Option β := cond (decide ((0 + a1.length) * 1 ≤ 70368744177664)) (K0 ([] ++ a1)) none
variable [FZ]
def sh52_1 : Sh := ⟨[.lf (.full 0)], [some ⟨none, [.seq (.int .u8) 0]⟩]⟩
noncomputable def S52_1 (F : Nat) (o : Summ) : Summ := mkS sh52_1 (fun d K => f52_1 F d.2.1.2.1 (fun (y2 : List Int) => K [.lf (.ptr 1 0)] [some ⟨d.2.1.1, [.seq (.int .u8) 0 d.2.1.2.1]⟩, some ⟨false, [.full 2, .int .i64 0]⟩, some ⟨false, [.seq (.int .u8) 0 y2]⟩])) o
noncomputable def code52 : Code := bodyOf Tryz.f52
theorem scopes52 : scopesOf code52 = [] := by kernel_rfl
theorem ranges52 : rangesOf code52 = [] := by kernel_rfl
theorem loops52 : loopsOf code52 = [] := by kernel_rfl
theorem enter52 : ∀ args w, (callFunc 52 args).run Tryz.prog w = .ok (.enter 52 args) w := enter_of (fn := Tryz.f52) (by kernel_rfl) (by kernel_rfl) (by kernel_rfl)
noncomputable def T52_1 (F : Nat) : FuncId → Option Summ := tab []
noncomputable def LT52_1 (F : Nat) : Nat → Option LoopS := ltab []
theorem E52_1g (F : Nat)    (d : sh52_1.den) (K : KF) : evBody Tryz.prog (tab []) (xw []) 8 1 (ltab []) [] code52 Tryz.f52.results.toList (encT sh52_1.vs d.1) (encH sh52_1.h d.2) K = (fun (a1 : List Int) (K0 : (List Int → Option Res)) => cond (decide ((0 + a1.length) * 1 ≤ 70368744177664)) (K0 ([] ++ a1)) none) d.2.1.2.1 (fun (y2 : List Int) => K [.lf (.ptr 1 0)] [some ⟨d.2.1.1, [.seq (.int .u8) 0 d.2.1.2.1]⟩, some ⟨false, [.full 2, .int .i64 0]⟩, some ⟨false, [.seq (.int .u8) 0 y2]⟩]) := by kernel_rfl
theorem E52_1 (F : Nat) (d : sh52_1.den) (K : KF) : evBody Tryz.prog (T52_1 F) (xw []) 8 1 (LT52_1 F) [] code52 Tryz.f52.results.toList (encT sh52_1.vs d.1) (encH sh52_1.h d.2) K = f52_1 F d.2.1.2.1 (fun (y2 : List Int) => K [.lf (.ptr 1 0)] [some ⟨d.2.1.1, [.seq (.int .u8) 0 d.2.1.2.1]⟩, some ⟨false, [.full 2, .int .i64 0]⟩, some ⟨false, [.seq (.int .u8) 0 y2]⟩]) := Eq.mp (by kernel_rfl) (E52_1g F    d K)
theorem S52_1_ok (F : Nat) (o : Summ) (ho : SoundFn Tryz.prog 52 o) : SoundFn Tryz.prog 52 (S52_1 F o) :=
  soundFn_of (fn := Tryz.f52) (c := code52) rfl rfl (by kernel_rfl) tab_nil (by kernel_rfl) (by kernel_rfl) ho (by rw [loops52]; exact loopsOK_nil) (by rw [scopes52]; exact scopesOK_nil) (by rw [ranges52]; exact rangesOK_nil) (E52_1 F)
end Go.Proofs.YtillbabmlfjegaaGreatDoor.X
end

section
namespace Go.Proofs.YtillbabmlfjegaaGreatDoor.X
open Go Go.Proofs.YtillbabmlfjegaaGreatDoor.Ev Go.Proofs
set_option linter.unusedVariables false
set_option linter.unusedSectionVars false
/-! word.Get -/
noncomputable def f69_1_l7 {β : Type} (F : Nat) (v3 : Nat) (v4 : Nat) (v5 : Int) (v7 : List Int) (K0 : Int → Option β) : Nat → Int → Int → Option β
  | 0, _, _ => none
  | k + 1, v2, v6 => cond (decide (v6 < v5)) (cond (decide ((0 : Int) ≤ v6 ∧ v6 < ((v4 : Nat) : Int))) (cond (decide (v3 + v6.toNat < v7.length)) (f69_1_l7 F v3 v4 v5 v7 K0 k (ior .u64 (ishl .u64 v2 8) (IntKind.u64.wrap (v7.getD (v3 + v6.toNat) 0))) (IntKind.i64.wrap (v6 + 1))) none) none) (K0 v2)
noncomputable def f69_1 {β : Type} (F : Nat) (a1 : Int) (a2 : Int) (a3 : List Int) (K0 : Int → Int → Option β) : Option β := f76_1 F a2 (fun x1 => cond (!x1) (K0 0 2) (cond (decide (a1 < 0)) (K0 0 2) (cond (decide (a1 > ((a3.length : Nat) : Int))) (K0 0 7) (cond (decide (IntKind.i64.wrap (((a3.length : Nat) : Int) - a1) < a2)) (K0 0 7) (cond (decide ((0 : Int) ≤ a1 ∧ a1 ≤ IntKind.i64.wrap (a1 + a2) ∧ IntKind.i64.wrap (a1 + a2) ≤ ((a3.length : Nat) : Int))) (f69_1_l7 F (0 + a1.toNat) ((IntKind.i64.wrap (a1 + a2) - a1).toNat) (((IntKind.i64.wrap (a1 + a2) - a1).toNat : Nat) : Int) a3 (fun x8 => K0 x8 0) F 0 0) none))))) 
variable [FZ]
def sh69_1 : Sh := ⟨[.lf (.full 0), .lf (.int .i64), .lf (.int .i64)], [some ⟨none, [.seq (.int .u8) 0]⟩]⟩
noncomputable def S69_1 (F : Nat) (o : Summ) : Summ := mkS sh69_1 (fun d K => f69_1 F d.1.2.1 d.1.2.2.1 d.2.1.2.1 (fun (y0 : Int) (y1 : Int) => K [.lf (.int .u64 y0), .lf (.int .i64 y1)] [some ⟨d.2.1.1, [.seq (.int .u8) 0 d.2.1.2.1]⟩])) o
noncomputable def code69 : Code := bodyOf Tryz.f69
noncomputable def b69_0 : Code := cB (cB (cR (cL (cR (cR (cR (code69)))))))
theorem scopes69 : scopesOf code69 = [] := by kernel_rfl
theorem ranges69 : rangesOf code69 = [] := by kernel_rfl
theorem loops69 : loopsOf code69 = [b69_0] := by kernel_rfl
theorem enter69 : ∀ args w, (callFunc 69 args).run Tryz.prog w = .ok (.enter 69 args) w := enter_of (fn := Tryz.f69) (by kernel_rfl) (by kernel_rfl) (by kernel_rfl)
noncomputable def T69_1 (F : Nat) : FuncId → Option Summ := tab [(76, (S76_1 F noS))]
def sh69_1_l7 : Sh := ⟨[.lf (.int .u64), .lf (.slice 0 0), .lf (.int .i64), .lf (.int .i64)], [some ⟨none, [.seq (.int .u8) 0]⟩]⟩
noncomputable def G69_1_7 (F k : Nat) : LoopS := mkG sh69_1_l7 [8, 37, 38, 39] (outT [(.exit 1, [8])]) (fun d K => f69_1_l7 F d.1.2.1.1 d.1.2.1.2 d.1.2.2.1 d.2.1.2.1 (fun (y0 : Int) => K (.exit 1) [.tv (.lf (.int .u64 y0))] [some ⟨d.2.1.1, [.seq (.int .u8) 0 d.2.1.2.1]⟩]) k d.1.1 d.1.2.2.2.1) []
noncomputable def LT69_1 (F : Nat) : Nat → Option LoopS := ltab [(7, G69_1_7 F F)]
theorem L69_1_l7g (F k : Nat) (c76_1 : Int → (Bool → Option Res) → Option Res)  (l7 : Nat → Nat → Int → List Int → (Int → Option Res) → Nat → Int → Int → Option Res) (X7 : LoopS) (d : sh69_1_l7.den) (K : KL) : (fun (v3 : Nat) (v4 : Nat) (v5 : Int) (v7 : List Int) (K0 : (Int → Option Res)) (k : Nat) (v2 : Int) (v6 : Int) => cond (decide (v6 < v5)) (cond (decide ((0 : Int) ≤ v6 ∧ v6 < ((v4 : Nat) : Int))) (cond (decide (v3 + v6.toNat < v7.length)) (l7 v3 v4 v5 v7 K0 k (ior .u64 (ishl .u64 v2 8) (IntKind.u64.wrap (v7.getD (v3 + v6.toNat) 0))) (IntKind.i64.wrap (v6 + 1))) none) none) (K0 v2)) d.1.2.1.1 d.1.2.1.2 d.1.2.2.1 d.2.1.2.1 (fun (y0 : Int) => K (.exit 1) [.tv (.lf (.int .u64 y0))] [some ⟨d.2.1.1, [.seq (.int .u8) 0 d.2.1.2.1]⟩]) k d.1.1 d.1.2.2.2.1 = roundOf Tryz.prog (tab [(76, (mkS sh76_1 (fun d K => c76_1 d.1.1 (fun (y0 : Bool) => K [.lf (.bool y0)] [])) noS))]) (xw []) 50 1 (ltab [(7, X7)]) (mkG sh69_1_l7 [8, 37, 38, 39] (outT [(.exit 1, [8])]) (fun d K => l7 d.1.2.1.1 d.1.2.1.2 d.1.2.2.1 d.2.1.2.1 (fun (y0 : Int) => K (.exit 1) [.tv (.lf (.int .u64 y0))] [some ⟨d.2.1.1, [.seq (.int .u8) 0 d.2.1.2.1]⟩]) k d.1.1 d.1.2.2.2.1) []) b69_0 (encT sh69_1_l7.vs d.1) (encH sh69_1_l7.h d.2) K := by kernel_rfl
theorem L69_1_7 (F : Nat) : LoopOK Tryz.prog (T69_1 F) (xw []) 50 1 (LT69_1 F) (G69_1_7 F F) b69_0 :=
  loopOK_of (s := sh69_1_l7) (live := [8, 37, 38, 39]) (out := (outT [(.exit 1, [8])])) (mv := []) (fun k d K => f69_1_l7 F d.1.2.1.1 d.1.2.1.2 d.1.2.2.1 d.2.1.2.1 (fun (y0 : Int) => K (.exit 1) [.tv (.lf (.int .u64 y0))] [some ⟨d.2.1.1, [.seq (.int .u8) 0 d.2.1.2.1]⟩]) k d.1.1 d.1.2.2.2.1) F (fun d K => by kernel_rfl)  (fun k d K => Eq.mp (by kernel_rfl) (L69_1_l7g F k (f76_1 F)  (f69_1_l7 F) (G69_1_7 F F) d K))
theorem E69_1g (F : Nat) (c76_1 : Int → (Bool → Option Res) → Option Res) (l7 : Nat → Nat → Int → List Int → (Int → Option Res) → Nat → Int → Int → Option Res)  (d : sh69_1.den) (K : KF) : evBody Tryz.prog (tab [(76, (mkS sh76_1 (fun d K => c76_1 d.1.1 (fun (y0 : Bool) => K [.lf (.bool y0)] [])) noS))]) (xw []) 50 1 (ltab [(7, mkG sh69_1_l7 [8, 37, 38, 39] (outT [(.exit 1, [8])]) (fun d K => l7 d.1.2.1.1 d.1.2.1.2 d.1.2.2.1 d.2.1.2.1 (fun (y0 : Int) => K (.exit 1) [.tv (.lf (.int .u64 y0))] [some ⟨d.2.1.1, [.seq (.int .u8) 0 d.2.1.2.1]⟩]) F d.1.1 d.1.2.2.2.1) [])]) [] code69 Tryz.f69.results.toList (encT sh69_1.vs d.1) (encH sh69_1.h d.2) K = (fun (a1 : Int) (a2 : Int) (a3 : List Int) (K0 : (Int → Int → Option Res)) => c76_1 a2 (fun x1 => cond (!x1) (K0 0 2) (cond (decide (a1 < 0)) (K0 0 2) (cond (decide (a1 > ((a3.length : Nat) : Int))) (K0 0 7) (cond (decide (IntKind.i64.wrap (((a3.length : Nat) : Int) - a1) < a2)) (K0 0 7) (cond (decide ((0 : Int) ≤ a1 ∧ a1 ≤ IntKind.i64.wrap (a1 + a2) ∧ IntKind.i64.wrap (a1 + a2) ≤ ((a3.length : Nat) : Int))) (l7 (0 + a1.toNat) ((IntKind.i64.wrap (a1 + a2) - a1).toNat) (((IntKind.i64.wrap (a1 + a2) - a1).toNat : Nat) : Int) a3 (fun x8 => K0 x8 0) F 0 0) none))))) ) d.1.2.1 d.1.2.2.1 d.2.1.2.1 (fun (y0 : Int) (y1 : Int) => K [.lf (.int .u64 y0), .lf (.int .i64 y1)] [some ⟨d.2.1.1, [.seq (.int .u8) 0 d.2.1.2.1]⟩]) := by kernel_rfl
theorem E69_1 (F : Nat) (d : sh69_1.den) (K : KF) : evBody Tryz.prog (T69_1 F) (xw []) 50 1 (LT69_1 F) [] code69 Tryz.f69.results.toList (encT sh69_1.vs d.1) (encH sh69_1.h d.2) K = f69_1 F d.1.2.1 d.1.2.2.1 d.2.1.2.1 (fun (y0 : Int) (y1 : Int) => K [.lf (.int .u64 y0), .lf (.int .i64 y1)] [some ⟨d.2.1.1, [.seq (.int .u8) 0 d.2.1.2.1]⟩]) := Eq.mp (by kernel_rfl) (E69_1g F (f76_1 F) (f69_1_l7 F)  d K)
theorem S69_1_ok (F : Nat) (o : Summ) (ho : SoundFn Tryz.prog 69 o) : SoundFn Tryz.prog 69 (S69_1 F o) :=
  soundFn_of (fn := Tryz.f69) (c := code69) rfl rfl (by kernel_rfl) (tab_cons (S76_1_ok F _ (noS_sound enter76)) tab_nil) (by kernel_rfl) (by kernel_rfl) ho (by rw [loops69]; exact (loopsOK_cons (by kernel_rfl) (L69_1_7 F) loopsOK_nil)) (by rw [scopes69]; exact scopesOK_nil) (by rw [ranges69]; exact rangesOK_nil) (E69_1 F)
end Go.Proofs.YtillbabmlfjegaaGreatDoor.X
end

section
namespace Go.Proofs.YtillbabmlfjegaaGreatDoor.X
open Go Go.Proofs.YtillbabmlfjegaaGreatDoor.Ev Go.Proofs
set_option linter.unusedVariables false
set_option linter.unusedSectionVars false
/-! word.Reader).Num -/
noncomputable def f55_1_l1000000 {β : Type} (F : Nat) (v3 : Int) (v4 : Int) (v5 : List Int) (K0 : Option β) : Nat → Option β
  | 0 => none
  | k + 1 => K0
noncomputable def f55_1 {β : Type} (F : Nat) (a1 : Int) (a2 : Int) (a3 : List Int) (K0 : Int → Int → List Int → Option β) : Option β := cond (a2 != 0) (K0 0 a2 a3) (f69_1 F 0 a1 a3 (fun x1 x2 => cond (x2 != 0) (f55_1_l1000000 F x2 a2 a3 (K0 0 x2 a3) F) (cond (decide ((0 : Int) ≤ a1 ∧ a1 ≤ ((a3.length : Nat) : Int) ∧ ((a3.length : Nat) : Int) ≤ ((a3.length : Nat) : Int))) (K0 x1 a2 ((a3.drop (0 + a1.toNat)).take ((((a3.length : Nat) : Int) - a1).toNat))) none)) )
variable [FZ]
def sh55_1 : Sh := ⟨[.lf (.ptr 0 0), .lf (.int .i64)], [some ⟨some false, [.full 1, .int .i64]⟩, some ⟨some false, [.seq (.int .u8) 0]⟩]⟩
noncomputable def S55_1 (F : Nat) (o : Summ) : Summ := mkS sh55_1 (fun d K => f55_1 F d.1.2.1 d.2.1.2.2.1 d.2.2.1.2.1 (fun (y0 : Int) (y1 : Int) (y2 : List Int) => K [.lf (.int .u64 y0)] [some ⟨false, [.full 2, .int .i64 y1]⟩, none, some ⟨false, [.seq (.int .u8) 0 y2]⟩])) o
noncomputable def code55 : Code := bodyOf Tryz.f55
noncomputable def s55_0 : Code := cB (cR (code55))
noncomputable def r55_0 : Code := match findLabel s55_0 0 with | some c => c | none => .skip
theorem find55_0 : findLabel s55_0 0 = some r55_0 := by kernel_rfl
theorem rloops55_0 : loopsOf r55_0 = [] := by kernel_rfl
theorem rscopes55_0 : scopesOf r55_0 = [] := by kernel_rfl
theorem rranges55_0 : rangesOf r55_0 = [] := by kernel_rfl
theorem scopes55 : scopesOf code55 = [s55_0] := by kernel_rfl
theorem ranges55 : rangesOf code55 = [] := by kernel_rfl
theorem loops55 : loopsOf code55 = [] := by kernel_rfl
theorem enter55 : ∀ args w, (callFunc 55 args).run Tryz.prog w = .ok (.enter 55 args) w := enter_of (fn := Tryz.f55) (by kernel_rfl) (by kernel_rfl) (by kernel_rfl)
noncomputable def T55_1 (F : Nat) : FuncId → Option Summ := tab [(69, (S69_1 F noS))]
def sh55_1_l1000000 : Sh := ⟨[.lf (.ptr 0 0), .lf (.int .i64)], [some ⟨some false, [.full 1, .int .i64]⟩, some ⟨some false, [.seq (.int .u8) 0]⟩]⟩
noncomputable def G55_1_1000000 (F k : Nat) : LoopS := mkG sh55_1_l1000000 [0, 6] (outT [(.ret, [4])]) (fun d K => f55_1_l1000000 F d.1.2.1 d.2.1.2.2.1 d.2.2.1.2.1 (K .ret [.tv (.lf (.int .u64 0))] [some ⟨false, [.full 1, .int .i64 d.1.2.1]⟩, some ⟨false, [.seq (.int .u8) 0 d.2.2.1.2.1]⟩]) k) []
noncomputable def LT55_1 (F : Nat) : Nat → Option LoopS := ltab [(1000000, G55_1_1000000 F F)]
theorem L55_1_l1000000g (F k : Nat) (c69_1 : Int → Int → List Int → (Int → Int → Option Res) → Option Res)  (l1000000 : Int → Int → List Int → (Option Res) → Nat → Option Res) (X1000000 : LoopS) (d : sh55_1_l1000000.den) (K : KL) : (fun (v3 : Int) (v4 : Int) (v5 : List Int) (K0 : (Option Res)) (k : Nat)  => K0) d.1.2.1 d.2.1.2.2.1 d.2.2.1.2.1 (K .ret [.tv (.lf (.int .u64 0))] [some ⟨false, [.full 1, .int .i64 d.1.2.1]⟩, some ⟨false, [.seq (.int .u8) 0 d.2.2.1.2.1]⟩]) k = passOf Tryz.prog (tab [(69, (mkS sh69_1 (fun d K => c69_1 d.1.2.1 d.1.2.2.1 d.2.1.2.1 (fun (y0 : Int) (y1 : Int) => K [.lf (.int .u64 y0), .lf (.int .i64 y1)] [some ⟨d.2.1.1, [.seq (.int .u8) 0 d.2.1.2.1]⟩])) noS))]) (xw []) 41 2 (ltab [(1000000, X1000000)]) (mkG sh55_1_l1000000 [0, 6] (outT [(.ret, [4])]) (fun d K => l1000000 d.1.2.1 d.2.1.2.2.1 d.2.2.1.2.1 (K .ret [.tv (.lf (.int .u64 0))] [some ⟨false, [.full 1, .int .i64 d.1.2.1]⟩, some ⟨false, [.seq (.int .u8) 0 d.2.2.1.2.1]⟩]) k) []) 0 r55_0 (encT sh55_1_l1000000.vs d.1) (encH sh55_1_l1000000.h d.2) K := by kernel_rfl
theorem L55_1_1000000 (F : Nat) : LabelOK Tryz.prog (T55_1 F) (xw []) 41 2 (LT55_1 F) (G55_1_1000000 F F) 0 s55_0 :=
  labelOK_of rfl (by kernel_rfl) (tab_cons (S69_1_ok F _ (noS_sound enter69)) tab_nil) (s := sh55_1_l1000000) (live := [0, 6]) (out := (outT [(.ret, [4])])) (mv := []) (fun k d K => f55_1_l1000000 F d.1.2.1 d.2.1.2.2.1 d.2.2.1.2.1 (K .ret [.tv (.lf (.int .u64 0))] [some ⟨false, [.full 1, .int .i64 d.1.2.1]⟩, some ⟨false, [.seq (.int .u8) 0 d.2.2.1.2.1]⟩]) k) F find55_0 (fun d K => by kernel_rfl)  (fun k d K => Eq.mp (by kernel_rfl) (L55_1_l1000000g F k (f69_1 F)  (f55_1_l1000000 F) (G55_1_1000000 F F) d K)) (by rw [rloops55_0]; exact loopsOK_nil) (by rw [rscopes55_0]; exact scopesOK_nil) (by rw [rranges55_0]; exact rangesOK_nil)
theorem E55_1g (F : Nat) (c69_1 : Int → Int → List Int → (Int → Int → Option Res) → Option Res) (l1000000 : Int → Int → List Int → (Option Res) → Nat → Option Res)  (d : sh55_1.den) (K : KF) : evBody Tryz.prog (tab [(69, (mkS sh69_1 (fun d K => c69_1 d.1.2.1 d.1.2.2.1 d.2.1.2.1 (fun (y0 : Int) (y1 : Int) => K [.lf (.int .u64 y0), .lf (.int .i64 y1)] [some ⟨d.2.1.1, [.seq (.int .u8) 0 d.2.1.2.1]⟩])) noS))]) (xw []) 41 2 (ltab [(1000000, mkG sh55_1_l1000000 [0, 6] (outT [(.ret, [4])]) (fun d K => l1000000 d.1.2.1 d.2.1.2.2.1 d.2.2.1.2.1 (K .ret [.tv (.lf (.int .u64 0))] [some ⟨false, [.full 1, .int .i64 d.1.2.1]⟩, some ⟨false, [.seq (.int .u8) 0 d.2.2.1.2.1]⟩]) F) [])]) [1] code55 Tryz.f55.results.toList (encT sh55_1.vs d.1) (encH sh55_1.h d.2) K = (fun (a1 : Int) (a2 : Int) (a3 : List Int) (K0 : (Int → Int → List Int → Option Res)) => cond (a2 != 0) (K0 0 a2 a3) (c69_1 0 a1 a3 (fun x1 x2 => cond (x2 != 0) (l1000000 x2 a2 a3 (K0 0 x2 a3) F) (cond (decide ((0 : Int) ≤ a1 ∧ a1 ≤ ((a3.length : Nat) : Int) ∧ ((a3.length : Nat) : Int) ≤ ((a3.length : Nat) : Int))) (K0 x1 a2 ((a3.drop (0 + a1.toNat)).take ((((a3.length : Nat) : Int) - a1).toNat))) none)) )) d.1.2.1 d.2.1.2.2.1 d.2.2.1.2.1 (fun (y0 : Int) (y1 : Int) (y2 : List Int) => K [.lf (.int .u64 y0)] [some ⟨false, [.full 2, .int .i64 y1]⟩, none, some ⟨false, [.seq (.int .u8) 0 y2]⟩]) := by kernel_rfl
theorem E55_1 (F : Nat) (d : sh55_1.den) (K : KF) : evBody Tryz.prog (T55_1 F) (xw []) 41 2 (LT55_1 F) [1] code55 Tryz.f55.results.toList (encT sh55_1.vs d.1) (encH sh55_1.h d.2) K = f55_1 F d.1.2.1 d.2.1.2.2.1 d.2.2.1.2.1 (fun (y0 : Int) (y1 : Int) (y2 : List Int) => K [.lf (.int .u64 y0)] [some ⟨false, [.full 2, .int .i64 y1]⟩, none, some ⟨false, [.seq (.int .u8) 0 y2]⟩]) := Eq.mp (by kernel_rfl) (E55_1g F (f69_1 F) (f55_1_l1000000 F)  d K)
theorem S55_1_ok (F : Nat) (o : Summ) (ho : SoundFn Tryz.prog 55 o) : SoundFn Tryz.prog 55 (S55_1 F o) :=
  soundFn_of (fn := Tryz.f55) (c := code55) rfl rfl (by kernel_rfl) (tab_cons (S69_1_ok F _ (noS_sound enter69)) tab_nil) (by kernel_rfl) (by kernel_rfl) ho (by rw [loops55]; exact loopsOK_nil) (by rw [scopes55]; exact (scopesOK_cons (by kernel_rfl) (by kernel_rfl) (L55_1_1000000 F) scopesOK_nil)) (by rw [ranges55]; exact rangesOK_nil) (E55_1 F)
end Go.Proofs.YtillbabmlfjegaaGreatDoor.X
end

section
namespace Go.Proofs.YtillbabmlfjegaaGreatDoor.X
open Go Go.Proofs.YtillbabmlfjegaaGreatDoor.Ev Go.Proofs
set_option linter.unusedVariables false
set_option linter.unusedSectionVars false
/-! bits.From -/
noncomputable def f53_1_l6 {β : Type} (F : Nat) (v3 : List Int) (K0 : List Int → Int → List Int → Option β) : Nat → Int → List Int → Int → List Int → Option β
  | 0, _, _, _, _ => none
  | k + 1, v2, v4, v5, v6 => cond (decide (v2 < 2)) (f55_1 F 8 v5 v6 (fun x7 x8 x9 => cond (decide ((0 : Int) ≤ v2 ∧ v2 < 2)) (cond (decide (v2.toNat < v4.length)) (f53_1_l6 F v3 K0 k (IntKind.i64.wrap (v2 + 1)) (v4.set v2.toNat x7) x8 x9) none) none) ) (K0 v4 v5 v6)
noncomputable def f53_1 {β : Type} (F : Nat) (a1 : ByteArray) (K0 : List Int → Int → Option β) : Option β := cond ((a1.size : Int) != 16) (K0 [0, 0] 4) (f52_1 F (toInts a1) (fun x1 => f53_1_l6 F [0, 0] (fun x10 x11 x12 => K0 x10 0) F 0 [0, 0] 0 x1) )
variable [FZ]
def sh53_1 : Sh := ⟨[.lf (.str)], []⟩
noncomputable def S53_1 (F : Nat) (o : Summ) : Summ := mkS sh53_1 (fun d K => f53_1 F d.1.1 (fun (y0 : List Int) (y1 : Int) => K [.agg [.seq (.int .u64) 2 y0], .lf (.int .i64 y1)] [])) o
noncomputable def code53 : Code := bodyOf Tryz.f53
noncomputable def b53_0 : Code := cB (cB (cR (cL (cR (cR (cR (cR (code53))))))))
theorem scopes53 : scopesOf code53 = [] := by kernel_rfl
theorem ranges53 : rangesOf code53 = [] := by kernel_rfl
theorem loops53 : loopsOf code53 = [b53_0] := by kernel_rfl
theorem enter53 : ∀ args w, (callFunc 53 args).run Tryz.prog w = .ok (.enter 53 args) w := enter_of (fn := Tryz.f53) (by kernel_rfl) (by kernel_rfl) (by kernel_rfl)
noncomputable def T53_1 (F : Nat) : FuncId → Option Summ := tab [(52, (S52_1 F noS)), (55, (S55_1 F noS))]
def sh53_1_l6 : Sh := ⟨[.lf (.ptr 0 0), .lf (.ptr 1 0), .lf (.ptr 2 0), .lf (.int .i64)], [some ⟨some false, [.seq (.int .u64) 2]⟩, some ⟨some false, [.seq (.int .u64) 2]⟩, some ⟨some false, [.full 3, .int .i64]⟩, some ⟨some false, [.seq (.int .u8) 0]⟩]⟩
noncomputable def G53_1_6 (F k : Nat) : LoopS := mkG sh53_1_l6 [2, 4, 5, 14] (outT [(.exit 0, [2, 4])]) (fun d K => f53_1_l6 F d.2.1.2.1 (fun (y1 : List Int) (y2 : Int) (y3 : List Int) => K (.exit 0) [.tv (.lf (.ptr 0 0)), .tv (.lf (.ptr 1 0))] [some ⟨false, [.seq (.int .u64) 2 d.2.1.2.1]⟩, some ⟨false, [.seq (.int .u64) 2 y1]⟩, some ⟨false, [.full 3, .int .i64 y2]⟩, some ⟨false, [.seq (.int .u8) 0 y3]⟩]) k d.1.2.2.2.1 d.2.2.1.2.1 d.2.2.2.1.2.2.1 d.2.2.2.2.1.2.1) []
noncomputable def LT53_1 (F : Nat) : Nat → Option LoopS := ltab [(6, G53_1_6 F F)]
theorem L53_1_l6g (F k : Nat) (c52_1 : List Int → (List Int → Option Res) → Option Res) (c55_1 : Int → Int → List Int → (Int → Int → List Int → Option Res) → Option Res)  (l6 : List Int → (List Int → Int → List Int → Option Res) → Nat → Int → List Int → Int → List Int → Option Res) (X6 : LoopS) (d : sh53_1_l6.den) (K : KL) : (fun (v3 : List Int) (K0 : (List Int → Int → List Int → Option Res)) (k : Nat) (v2 : Int) (v4 : List Int) (v5 : Int) (v6 : List Int) => cond (decide (v2 < 2)) (c55_1 8 v5 v6 (fun x7 x8 x9 => cond (decide ((0 : Int) ≤ v2 ∧ v2 < 2)) (cond (decide (v2.toNat < v4.length)) (l6 v3 K0 k (IntKind.i64.wrap (v2 + 1)) (v4.set v2.toNat x7) x8 x9) none) none) ) (K0 v4 v5 v6)) d.2.1.2.1 (fun (y1 : List Int) (y2 : Int) (y3 : List Int) => K (.exit 0) [.tv (.lf (.ptr 0 0)), .tv (.lf (.ptr 1 0))] [some ⟨false, [.seq (.int .u64) 2 d.2.1.2.1]⟩, some ⟨false, [.seq (.int .u64) 2 y1]⟩, some ⟨false, [.full 3, .int .i64 y2]⟩, some ⟨false, [.seq (.int .u8) 0 y3]⟩]) k d.1.2.2.2.1 d.2.2.1.2.1 d.2.2.2.1.2.2.1 d.2.2.2.2.1.2.1 = roundOf Tryz.prog (tab [(52, (mkS sh52_1 (fun d K => c52_1 d.2.1.2.1 (fun (y2 : List Int) => K [.lf (.ptr 1 0)] [some ⟨d.2.1.1, [.seq (.int .u8) 0 d.2.1.2.1]⟩, some ⟨false, [.full 2, .int .i64 0]⟩, some ⟨false, [.seq (.int .u8) 0 y2]⟩])) noS)), (55, (mkS sh55_1 (fun d K => c55_1 d.1.2.1 d.2.1.2.2.1 d.2.2.1.2.1 (fun (y0 : Int) (y1 : Int) (y2 : List Int) => K [.lf (.int .u64 y0)] [some ⟨false, [.full 2, .int .i64 y1]⟩, none, some ⟨false, [.seq (.int .u8) 0 y2]⟩])) noS))]) (xw []) 23 0 (ltab [(6, X6)]) (mkG sh53_1_l6 [2, 4, 5, 14] (outT [(.exit 0, [2, 4])]) (fun d K => l6 d.2.1.2.1 (fun (y1 : List Int) (y2 : Int) (y3 : List Int) => K (.exit 0) [.tv (.lf (.ptr 0 0)), .tv (.lf (.ptr 1 0))] [some ⟨false, [.seq (.int .u64) 2 d.2.1.2.1]⟩, some ⟨false, [.seq (.int .u64) 2 y1]⟩, some ⟨false, [.full 3, .int .i64 y2]⟩, some ⟨false, [.seq (.int .u8) 0 y3]⟩]) k d.1.2.2.2.1 d.2.2.1.2.1 d.2.2.2.1.2.2.1 d.2.2.2.2.1.2.1) []) b53_0 (encT sh53_1_l6.vs d.1) (encH sh53_1_l6.h d.2) K := by kernel_rfl
theorem L53_1_6 (F : Nat) : LoopOK Tryz.prog (T53_1 F) (xw []) 23 0 (LT53_1 F) (G53_1_6 F F) b53_0 :=
  loopOK_of (s := sh53_1_l6) (live := [2, 4, 5, 14]) (out := (outT [(.exit 0, [2, 4])])) (mv := []) (fun k d K => f53_1_l6 F d.2.1.2.1 (fun (y1 : List Int) (y2 : Int) (y3 : List Int) => K (.exit 0) [.tv (.lf (.ptr 0 0)), .tv (.lf (.ptr 1 0))] [some ⟨false, [.seq (.int .u64) 2 d.2.1.2.1]⟩, some ⟨false, [.seq (.int .u64) 2 y1]⟩, some ⟨false, [.full 3, .int .i64 y2]⟩, some ⟨false, [.seq (.int .u8) 0 y3]⟩]) k d.1.2.2.2.1 d.2.2.1.2.1 d.2.2.2.1.2.2.1 d.2.2.2.2.1.2.1) F (fun d K => by kernel_rfl)  (fun k d K => Eq.mp (by kernel_rfl) (L53_1_l6g F k (f52_1 F) (f55_1 F)  (f53_1_l6 F) (G53_1_6 F F) d K))
theorem E53_1g (F : Nat) (c52_1 : List Int → (List Int → Option Res) → Option Res) (c55_1 : Int → Int → List Int → (Int → Int → List Int → Option Res) → Option Res) (l6 : List Int → (List Int → Int → List Int → Option Res) → Nat → Int → List Int → Int → List Int → Option Res)  (d : sh53_1.den) (K : KF) : evBody Tryz.prog (tab [(52, (mkS sh52_1 (fun d K => c52_1 d.2.1.2.1 (fun (y2 : List Int) => K [.lf (.ptr 1 0)] [some ⟨d.2.1.1, [.seq (.int .u8) 0 d.2.1.2.1]⟩, some ⟨false, [.full 2, .int .i64 0]⟩, some ⟨false, [.seq (.int .u8) 0 y2]⟩])) noS)), (55, (mkS sh55_1 (fun d K => c55_1 d.1.2.1 d.2.1.2.2.1 d.2.2.1.2.1 (fun (y0 : Int) (y1 : Int) (y2 : List Int) => K [.lf (.int .u64 y0)] [some ⟨false, [.full 2, .int .i64 y1]⟩, none, some ⟨false, [.seq (.int .u8) 0 y2]⟩])) noS))]) (xw []) 23 0 (ltab [(6, mkG sh53_1_l6 [2, 4, 5, 14] (outT [(.exit 0, [2, 4])]) (fun d K => l6 d.2.1.2.1 (fun (y1 : List Int) (y2 : Int) (y3 : List Int) => K (.exit 0) [.tv (.lf (.ptr 0 0)), .tv (.lf (.ptr 1 0))] [some ⟨false, [.seq (.int .u64) 2 d.2.1.2.1]⟩, some ⟨false, [.seq (.int .u64) 2 y1]⟩, some ⟨false, [.full 3, .int .i64 y2]⟩, some ⟨false, [.seq (.int .u8) 0 y3]⟩]) F d.1.2.2.2.1 d.2.2.1.2.1 d.2.2.2.1.2.2.1 d.2.2.2.2.1.2.1) [])]) [] code53 Tryz.f53.results.toList (encT sh53_1.vs d.1) (encH sh53_1.h d.2) K = (fun (a1 : ByteArray) (K0 : (List Int → Int → Option Res)) => cond ((a1.size : Int) != 16) (K0 [0, 0] 4) (c52_1 (toInts a1) (fun x1 => l6 [0, 0] (fun x10 x11 x12 => K0 x10 0) F 0 [0, 0] 0 x1) )) d.1.1 (fun (y0 : List Int) (y1 : Int) => K [.agg [.seq (.int .u64) 2 y0], .lf (.int .i64 y1)] []) := by kernel_rfl
theorem E53_1 (F : Nat) (d : sh53_1.den) (K : KF) : evBody Tryz.prog (T53_1 F) (xw []) 23 0 (LT53_1 F) [] code53 Tryz.f53.results.toList (encT sh53_1.vs d.1) (encH sh53_1.h d.2) K = f53_1 F d.1.1 (fun (y0 : List Int) (y1 : Int) => K [.agg [.seq (.int .u64) 2 y0], .lf (.int .i64 y1)] []) := Eq.mp (by kernel_rfl) (E53_1g F (f52_1 F) (f55_1 F) (f53_1_l6 F)  d K)
theorem S53_1_ok (F : Nat) (o : Summ) (ho : SoundFn Tryz.prog 53 o) : SoundFn Tryz.prog 53 (S53_1 F o) :=
  soundFn_of (fn := Tryz.f53) (c := code53) rfl rfl (by kernel_rfl) (tab_cons (S52_1_ok F _ (noS_sound enter52)) (tab_cons (S55_1_ok F _ (noS_sound enter55)) tab_nil)) (by kernel_rfl) (by kernel_rfl) ho (by rw [loops53]; exact (loopsOK_cons (by kernel_rfl) (L53_1_6 F) loopsOK_nil)) (by rw [scopes53]; exact scopesOK_nil) (by rw [ranges53]; exact rangesOK_nil) (E53_1 F)
end Go.Proofs.YtillbabmlfjegaaGreatDoor.X
end

section
namespace Go.Proofs.YtillbabmlfjegaaGreatDoor.X
open Go Go.Proofs.YtillbabmlfjegaaGreatDoor.Ev Go.Proofs
set_option linter.unusedVariables false
set_option linter.unusedSectionVars false
/-! word.Reader).Bytes -/
noncomputable def f54_1_l1000000 {β : Type} (F : Nat) (v1 : Int) (v2 : Int) (v3 : List Int) (K0 : Option β) : Nat → Option β
  | 0 => none
  | k + 1 => K0
noncomputable def f54_1 {β : Type} (F : Nat) (a1 : Int) (a2 : Int) (a3 : List Int) (K0 : Int → List Int → List Int → Option β) : Option β := cond (a2 != 0) (K0 a2 a3 []) (cond (decide (a1 < 0)) (f54_1_l1000000 F 2 a2 a3 (K0 2 a3 []) F) (cond (decide (a1 > ((a3.length : Nat) : Int))) (f54_1_l1000000 F 7 a2 a3 (K0 7 a3 []) F) (cond (decide ((0 : Int) ≤ (0 : Int) ∧ (0 : Int) ≤ a1 ∧ a1 ≤ ((a3.length : Nat) : Int))) (amb (cond (decide ((((a3.drop 0).take ((a1 - 0).toNat)).length) * 1 ≤ 70368744177664)) (cond (decide ((0 : Int) ≤ a1 ∧ a1 ≤ ((a3.length : Nat) : Int) ∧ ((a3.length : Nat) : Int) ≤ ((a3.length : Nat) : Int))) (K0 a2 ((a3.drop (0 + a1.toNat)).take ((((a3.length : Nat) : Int) - a1).toNat)) ((a3.drop 0).take ((a1 - 0).toNat))) none) none) (cond (decide ((0 : Int) ≤ a1 ∧ a1 ≤ ((a3.length : Nat) : Int) ∧ ((a3.length : Nat) : Int) ≤ ((a3.length : Nat) : Int))) (cond (decide ((((a3.drop 0).take ((a1 - 0).toNat)).length) * 1 ≤ 70368744177664)) (K0 a2 ((a3.drop (0 + a1.toNat)).take ((((a3.length : Nat) : Int) - a1).toNat)) ((a3.drop 0).take ((a1 - 0).toNat))) none) none)) none)))
variable [FZ]
def sh54_1 : Sh := ⟨[.lf (.ptr 0 0), .lf (.int .i64)], [some ⟨some false, [.full 1, .int .i64]⟩, some ⟨some false, [.seq (.int .u8) 0]⟩]⟩
noncomputable def S54_1 (F : Nat) (o : Summ) : Summ := mkS sh54_1 (fun d K => f54_1 F d.1.2.1 d.2.1.2.2.1 d.2.2.1.2.1 (fun (y0 : Int) (y1 : List Int) (y2 : List Int) => K [.lf (.full 3)] [some ⟨false, [.full 2, .int .i64 y0]⟩, none, some ⟨false, [.seq (.int .u8) 0 y1]⟩, some ⟨false, [.seq (.int .u8) 0 y2]⟩])) o
noncomputable def code54 : Code := bodyOf Tryz.f54
noncomputable def s54_0 : Code := cB (cR (code54))
noncomputable def r54_0 : Code := match findLabel s54_0 0 with | some c => c | none => .skip
theorem find54_0 : findLabel s54_0 0 = some r54_0 := by kernel_rfl
theorem rloops54_0 : loopsOf r54_0 = [] := by kernel_rfl
theorem rscopes54_0 : scopesOf r54_0 = [] := by kernel_rfl
theorem rranges54_0 : rangesOf r54_0 = [] := by kernel_rfl
theorem scopes54 : scopesOf code54 = [s54_0] := by kernel_rfl
theorem ranges54 : rangesOf code54 = [] := by kernel_rfl
theorem loops54 : loopsOf code54 = [] := by kernel_rfl
theorem enter54 : ∀ args w, (callFunc 54 args).run Tryz.prog w = .ok (.enter 54 args) w := enter_of (fn := Tryz.f54) (by kernel_rfl) (by kernel_rfl) (by kernel_rfl)
noncomputable def T54_1 (F : Nat) : FuncId → Option Summ := tab []
def sh54_1_l1000000 : Sh := ⟨[.lf (.ptr 0 0), .lf (.int .i64)], [some ⟨some false, [.full 1, .int .i64]⟩, some ⟨some false, [.seq (.int .u8) 0]⟩]⟩
noncomputable def G54_1_1000000 (F k : Nat) : LoopS := mkG sh54_1_l1000000 [0, 6] (outT [(.ret, [4])]) (fun d K => f54_1_l1000000 F d.1.2.1 d.2.1.2.2.1 d.2.2.1.2.1 (K .ret [.tv (.lf (.nils (some (.int .u8))))] [some ⟨false, [.full 1, .int .i64 d.1.2.1]⟩, some ⟨false, [.seq (.int .u8) 0 d.2.2.1.2.1]⟩]) k) []
noncomputable def LT54_1 (F : Nat) : Nat → Option LoopS := ltab [(1000000, G54_1_1000000 F F)]
theorem L54_1_l1000000g (F k : Nat)   (l1000000 : Int → Int → List Int → (Option Res) → Nat → Option Res) (X1000000 : LoopS) (d : sh54_1_l1000000.den) (K : KL) : (fun (v1 : Int) (v2 : Int) (v3 : List Int) (K0 : (Option Res)) (k : Nat)  => K0) d.1.2.1 d.2.1.2.2.1 d.2.2.1.2.1 (K .ret [.tv (.lf (.nils (some (.int .u8))))] [some ⟨false, [.full 1, .int .i64 d.1.2.1]⟩, some ⟨false, [.seq (.int .u8) 0 d.2.2.1.2.1]⟩]) k = passOf Tryz.prog (tab []) (xw []) 47 2 (ltab [(1000000, X1000000)]) (mkG sh54_1_l1000000 [0, 6] (outT [(.ret, [4])]) (fun d K => l1000000 d.1.2.1 d.2.1.2.2.1 d.2.2.1.2.1 (K .ret [.tv (.lf (.nils (some (.int .u8))))] [some ⟨false, [.full 1, .int .i64 d.1.2.1]⟩, some ⟨false, [.seq (.int .u8) 0 d.2.2.1.2.1]⟩]) k) []) 0 r54_0 (encT sh54_1_l1000000.vs d.1) (encH sh54_1_l1000000.h d.2) K := by kernel_rfl
theorem L54_1_1000000 (F : Nat) : LabelOK Tryz.prog (T54_1 F) (xw []) 47 2 (LT54_1 F) (G54_1_1000000 F F) 0 s54_0 :=
  labelOK_of rfl (by kernel_rfl) tab_nil (s := sh54_1_l1000000) (live := [0, 6]) (out := (outT [(.ret, [4])])) (mv := []) (fun k d K => f54_1_l1000000 F d.1.2.1 d.2.1.2.2.1 d.2.2.1.2.1 (K .ret [.tv (.lf (.nils (some (.int .u8))))] [some ⟨false, [.full 1, .int .i64 d.1.2.1]⟩, some ⟨false, [.seq (.int .u8) 0 d.2.2.1.2.1]⟩]) k) F find54_0 (fun d K => by kernel_rfl)  (fun k d K => Eq.mp (by kernel_rfl) (L54_1_l1000000g F k   (f54_1_l1000000 F) (G54_1_1000000 F F) d K)) (by rw [rloops54_0]; exact loopsOK_nil) (by rw [rscopes54_0]; exact scopesOK_nil) (by rw [rranges54_0]; exact rangesOK_nil)
theorem E54_1g (F : Nat)  (l1000000 : Int → Int → List Int → (Option Res) → Nat → Option Res)  (d : sh54_1.den) (K : KF) : evBody Tryz.prog (tab []) (xw []) 47 2 (ltab [(1000000, mkG sh54_1_l1000000 [0, 6] (outT [(.ret, [4])]) (fun d K => l1000000 d.1.2.1 d.2.1.2.2.1 d.2.2.1.2.1 (K .ret [.tv (.lf (.nils (some (.int .u8))))] [some ⟨false, [.full 1, .int .i64 d.1.2.1]⟩, some ⟨false, [.seq (.int .u8) 0 d.2.2.1.2.1]⟩]) F) [])]) [1] code54 Tryz.f54.results.toList (encT sh54_1.vs d.1) (encH sh54_1.h d.2) K = (fun (a1 : Int) (a2 : Int) (a3 : List Int) (K0 : (Int → List Int → List Int → Option Res)) => cond (a2 != 0) (K0 a2 a3 []) (cond (decide (a1 < 0)) (l1000000 2 a2 a3 (K0 2 a3 []) F) (cond (decide (a1 > ((a3.length : Nat) : Int))) (l1000000 7 a2 a3 (K0 7 a3 []) F) (cond (decide ((0 : Int) ≤ (0 : Int) ∧ (0 : Int) ≤ a1 ∧ a1 ≤ ((a3.length : Nat) : Int))) (amb (cond (decide ((((a3.drop 0).take ((a1 - 0).toNat)).length) * 1 ≤ 70368744177664)) (cond (decide ((0 : Int) ≤ a1 ∧ a1 ≤ ((a3.length : Nat) : Int) ∧ ((a3.length : Nat) : Int) ≤ ((a3.length : Nat) : Int))) (K0 a2 ((a3.drop (0 + a1.toNat)).take ((((a3.length : Nat) : Int) - a1).toNat)) ((a3.drop 0).take ((a1 - 0).toNat))) none) none) (cond (decide ((0 : Int) ≤ a1 ∧ a1 ≤ ((a3.length : Nat) : Int) ∧ ((a3.length : Nat) : Int) ≤ ((a3.length : Nat) : Int))) (cond (decide ((((a3.drop 0).take ((a1 - 0).toNat)).length) * 1 ≤ 70368744177664)) (K0 a2 ((a3.drop (0 + a1.toNat)).take ((((a3.length : Nat) : Int) - a1).toNat)) ((a3.drop 0).take ((a1 - 0).toNat))) none) none)) none)))) d.1.2.1 d.2.1.2.2.1 d.2.2.1.2.1 (fun (y0 : Int) (y1 : List Int) (y2 : List Int) => K [.lf (.full 3)] [some ⟨false, [.full 2, .int .i64 y0]⟩, none, some ⟨false, [.seq (.int .u8) 0 y1]⟩, some ⟨false, [.seq (.int .u8) 0 y2]⟩]) := by kernel_rfl
theorem E54_1 (F : Nat) (d : sh54_1.den) (K : KF) : evBody Tryz.prog (T54_1 F) (xw []) 47 2 (LT54_1 F) [1] code54 Tryz.f54.results.toList (encT sh54_1.vs d.1) (encH sh54_1.h d.2) K = f54_1 F d.1.2.1 d.2.1.2.2.1 d.2.2.1.2.1 (fun (y0 : Int) (y1 : List Int) (y2 : List Int) => K [.lf (.full 3)] [some ⟨false, [.full 2, .int .i64 y0]⟩, none, some ⟨false, [.seq (.int .u8) 0 y1]⟩, some ⟨false, [.seq (.int .u8) 0 y2]⟩]) := Eq.mp (by kernel_rfl) (E54_1g F  (f54_1_l1000000 F)  d K)
theorem S54_1_ok (F : Nat) (o : Summ) (ho : SoundFn Tryz.prog 54 o) : SoundFn Tryz.prog 54 (S54_1 F o) :=
  soundFn_of (fn := Tryz.f54) (c := code54) rfl rfl (by kernel_rfl) tab_nil (by kernel_rfl) (by kernel_rfl) ho (by rw [loops54]; exact loopsOK_nil) (by rw [scopes54]; exact (scopesOK_cons (by kernel_rfl) (by kernel_rfl) (L54_1_1000000 F) scopesOK_nil)) (by rw [ranges54]; exact rangesOK_nil) (E54_1 F)
end Go.Proofs.YtillbabmlfjegaaGreatDoor.X
end

section
namespace Go.Proofs.YtillbabmlfjegaaGreatDoor.X
open Go Go.Proofs.YtillbabmlfjegaaGreatDoor.Ev Go.Proofs
set_option linter.unusedVariables false
set_option linter.unusedSectionVars false
/-! dirty.read -/
noncomputable def f32_1 {β : Type} (F : Nat) (a1 : ByteArray) (K0 : List Int → List Int → Int → Int → Option β) : Option β := cond ((a1.size : Int) != 40) (K0 [0, 0] [0, 0] 0 6) (f52_1 F (toInts a1) (fun x1 => f54_1 F 16 0 x1 (fun x2 x3 x4 => f53_1 F (ofInts x4) (fun x5 x6 => cond (x6 != 0) (K0 [0, 0] [0, 0] 0 x6) (f54_1 F 16 x2 x3 (fun x7 x8 x9 => f53_1 F (ofInts x9) (fun x10 x11 => cond (x11 != 0) (K0 [0, 0] [0, 0] 0 x11) ((fun z1 => amb (amb z1 z1) (amb (amb z1 z1) z1)) (f55_1 F 8 x7 x8 (fun x12 x13 x14 => K0 x5 x10 x12 0) ))) ) )) ) ) )
variable [FZ]
def sh32_1 : Sh := ⟨[.lf (.str)], []⟩
noncomputable def S32_1 (F : Nat) (o : Summ) : Summ := mkS sh32_1 (fun d K => f32_1 F d.1.1 (fun (y0 : List Int) (y1 : List Int) (y2 : Int) (y3 : Int) => K [.agg [.seq (.int .u64) 2 y0, .seq (.int .u64) 2 y1, .int .u64 y2], .lf (.int .i64 y3)] [])) o
noncomputable def code32 : Code := bodyOf Tryz.f32
theorem scopes32 : scopesOf code32 = [] := by kernel_rfl
theorem ranges32 : rangesOf code32 = [] := by kernel_rfl
theorem loops32 : loopsOf code32 = [] := by kernel_rfl
theorem enter32 : ∀ args w, (callFunc 32 args).run Tryz.prog w = .ok (.enter 32 args) w := enter_of (fn := Tryz.f32) (by kernel_rfl) (by kernel_rfl) (by kernel_rfl)
noncomputable def T32_1 (F : Nat) : FuncId → Option Summ := tab [(52, (S52_1 F noS)), (53, (S53_1 F noS)), (54, (S54_1 F noS)), (55, (S55_1 F noS))]
noncomputable def LT32_1 (F : Nat) : Nat → Option LoopS := ltab []
theorem E32_1g (F : Nat) (c52_1 : List Int → (List Int → Option Res) → Option Res) (c53_1 : ByteArray → (List Int → Int → Option Res) → Option Res) (c54_1 : Int → Int → List Int → (Int → List Int → List Int → Option Res) → Option Res) (c55_1 : Int → Int → List Int → (Int → Int → List Int → Option Res) → Option Res)   (d : sh32_1.den) (K : KF) : evBody Tryz.prog (tab [(52, (mkS sh52_1 (fun d K => c52_1 d.2.1.2.1 (fun (y2 : List Int) => K [.lf (.ptr 1 0)] [some ⟨d.2.1.1, [.seq (.int .u8) 0 d.2.1.2.1]⟩, some ⟨false, [.full 2, .int .i64 0]⟩, some ⟨false, [.seq (.int .u8) 0 y2]⟩])) noS)), (53, (mkS sh53_1 (fun d K => c53_1 d.1.1 (fun (y0 : List Int) (y1 : Int) => K [.agg [.seq (.int .u64) 2 y0], .lf (.int .i64 y1)] [])) noS)), (54, (mkS sh54_1 (fun d K => c54_1 d.1.2.1 d.2.1.2.2.1 d.2.2.1.2.1 (fun (y0 : Int) (y1 : List Int) (y2 : List Int) => K [.lf (.full 3)] [some ⟨false, [.full 2, .int .i64 y0]⟩, none, some ⟨false, [.seq (.int .u8) 0 y1]⟩, some ⟨false, [.seq (.int .u8) 0 y2]⟩])) noS)), (55, (mkS sh55_1 (fun d K => c55_1 d.1.2.1 d.2.1.2.2.1 d.2.2.1.2.1 (fun (y0 : Int) (y1 : Int) (y2 : List Int) => K [.lf (.int .u64 y0)] [some ⟨false, [.full 2, .int .i64 y1]⟩, none, some ⟨false, [.seq (.int .u8) 0 y2]⟩])) noS))]) (xw [10]) 42 0 (ltab []) [] code32 Tryz.f32.results.toList (encT sh32_1.vs d.1) (encH sh32_1.h d.2) K = (fun (a1 : ByteArray) (K0 : (List Int → List Int → Int → Int → Option Res)) => cond ((a1.size : Int) != 40) (K0 [0, 0] [0, 0] 0 6) (c52_1 (toInts a1) (fun x1 => c54_1 16 0 x1 (fun x2 x3 x4 => c53_1 (ofInts x4) (fun x5 x6 => cond (x6 != 0) (K0 [0, 0] [0, 0] 0 x6) (c54_1 16 x2 x3 (fun x7 x8 x9 => c53_1 (ofInts x9) (fun x10 x11 => cond (x11 != 0) (K0 [0, 0] [0, 0] 0 x11) ((fun z1 => amb (amb z1 z1) (amb (amb z1 z1) z1)) (c55_1 8 x7 x8 (fun x12 x13 x14 => K0 x5 x10 x12 0) ))) ) )) ) ) )) d.1.1 (fun (y0 : List Int) (y1 : List Int) (y2 : Int) (y3 : Int) => K [.agg [.seq (.int .u64) 2 y0, .seq (.int .u64) 2 y1, .int .u64 y2], .lf (.int .i64 y3)] []) := by kernel_rfl
theorem E32_1 (F : Nat) (d : sh32_1.den) (K : KF) : evBody Tryz.prog (T32_1 F) (xw [10]) 42 0 (LT32_1 F) [] code32 Tryz.f32.results.toList (encT sh32_1.vs d.1) (encH sh32_1.h d.2) K = f32_1 F d.1.1 (fun (y0 : List Int) (y1 : List Int) (y2 : Int) (y3 : Int) => K [.agg [.seq (.int .u64) 2 y0, .seq (.int .u64) 2 y1, .int .u64 y2], .lf (.int .i64 y3)] []) := Eq.mp (by kernel_rfl) (E32_1g F (f52_1 F) (f53_1 F) (f54_1 F) (f55_1 F)   d K)
theorem S32_1_ok (F : Nat) (o : Summ) (ho : SoundFn Tryz.prog 32 o) : SoundFn Tryz.prog 32 (S32_1 F o) :=
  soundFn_of (fn := Tryz.f32) (c := code32) rfl rfl (by kernel_rfl) (tab_cons (S52_1_ok F _ (noS_sound enter52)) (tab_cons (S53_1_ok F _ (noS_sound enter53)) (tab_cons (S54_1_ok F _ (noS_sound enter54)) (tab_cons (S55_1_ok F _ (noS_sound enter55)) tab_nil)))) (by kernel_rfl) (by kernel_rfl) ho (by rw [loops32]; exact loopsOK_nil) (by rw [scopes32]; exact scopesOK_nil) (by rw [ranges32]; exact rangesOK_nil) (E32_1 F)
end Go.Proofs.YtillbabmlfjegaaGreatDoor.X
end

section
namespace Go.Proofs.YtillbabmlfjegaaGreatDoor.X
open Go Go.Proofs.YtillbabmlfjegaaGreatDoor.Ev Go.Proofs
set_option linter.unusedVariables false
set_option linter.unusedSectionVars false
/-! dirty.Load -/
noncomputable def f11_1 {β : Type} (F : Nat) (a1 : Int) (a2 : Bool) (a3 : Int) (a4 : List ByteArray) (a5 : List (Int × ByteArray)) (K0 : List Int → List Int → Int → Int → Option β) : Option β := f30_1 F 5 a1 a2 a3 a4 a5 (fun x1 x2 => cond (x2 != 0) (K0 [0, 0] [0, 0] 0 x2) (f31_1 F 5 x1 (fun x3 x4 => cond (x4 != 0) (K0 [0, 0] [0, 0] 0 x4) (f32_1 F x3 (fun x5 x6 x7 x8 => K0 x5 x6 x7 x8) )) )) 
variable [FZ]
def sh11_1 : Sh := ⟨[.lf (.ptr 0 0)], [some ⟨none, [.full 1, .full 2, .int .i64, .bool, .int .i64]⟩, some ⟨none, [.seq .str 0]⟩, some ⟨none, [.seq (.pair (.int .i64) .str) 0]⟩]⟩
noncomputable def S11_1 (F : Nat) (o : Summ) : Summ := mkS sh11_1 (fun d K => f11_1 F d.2.1.2.2.2.1 d.2.1.2.2.2.2.1 d.2.1.2.2.2.2.2.1 d.2.2.1.2.1 d.2.2.2.1.2.1 (fun (y0 : List Int) (y1 : List Int) (y2 : Int) (y3 : Int) => K [.agg [.seq (.int .u64) 2 y0, .seq (.int .u64) 2 y1, .int .u64 y2], .lf (.int .i64 y3)] [some ⟨d.2.1.1, [.full 1, .full 2, .int .i64 d.2.1.2.2.2.1, .bool d.2.1.2.2.2.2.1, .int .i64 d.2.1.2.2.2.2.2.1]⟩, some ⟨d.2.2.1.1, [.seq .str 0 d.2.2.1.2.1]⟩, some ⟨d.2.2.2.1.1, [.seq (.pair (.int .i64) .str) 0 d.2.2.2.1.2.1]⟩])) o
noncomputable def code11 : Code := bodyOf Tryz.f11
theorem scopes11 : scopesOf code11 = [] := by kernel_rfl
theorem ranges11 : rangesOf code11 = [] := by kernel_rfl
theorem loops11 : loopsOf code11 = [] := by kernel_rfl
theorem enter11 : ∀ args w, (callFunc 11 args).run Tryz.prog w = .ok (.enter 11 args) w := enter_of (fn := Tryz.f11) (by kernel_rfl) (by kernel_rfl) (by kernel_rfl)
noncomputable def T11_1 (F : Nat) : FuncId → Option Summ := tab [(30, (S30_1 F noS)), (31, (S31_1 F noS)), (32, (S32_1 F noS))]
noncomputable def LT11_1 (F : Nat) : Nat → Option LoopS := ltab []
theorem E11_1g (F : Nat) (c30_1 : Int → Int → Bool → Int → List ByteArray → List (Int × ByteArray) → (ByteArray → Int → Option Res) → Option Res) (c31_1 : Int → ByteArray → (ByteArray → Int → Option Res) → Option Res) (c32_1 : ByteArray → (List Int → List Int → Int → Int → Option Res) → Option Res)   (d : sh11_1.den) (K : KF) : evBody Tryz.prog (tab [(30, (mkS sh30_1 (fun d K => c30_1 d.1.2.1 d.2.1.2.2.2.1 d.2.1.2.2.2.2.1 d.2.1.2.2.2.2.2.1 d.2.2.1.2.1 d.2.2.2.1.2.1 (fun (y0 : ByteArray) (y1 : Int) => K [.lf (.str y0), .lf (.int .i64 y1)] [some ⟨d.2.1.1, [.full 1, .full 2, .int .i64 d.2.1.2.2.2.1, .bool d.2.1.2.2.2.2.1, .int .i64 d.2.1.2.2.2.2.2.1]⟩, some ⟨d.2.2.1.1, [.seq .str 0 d.2.2.1.2.1]⟩, some ⟨d.2.2.2.1.1, [.seq (.pair (.int .i64) .str) 0 d.2.2.2.1.2.1]⟩])) noS)), (31, (mkS sh31_1 (fun d K => c31_1 d.1.1 d.1.2.1 (fun (y0 : ByteArray) (y1 : Int) => K [.lf (.str y0), .lf (.int .i64 y1)] [])) noS)), (32, (mkS sh32_1 (fun d K => c32_1 d.1.1 (fun (y0 : List Int) (y1 : List Int) (y2 : Int) (y3 : Int) => K [.agg [.seq (.int .u64) 2 y0, .seq (.int .u64) 2 y1, .int .u64 y2], .lf (.int .i64 y3)] [])) noS))]) (xw []) 29 3 (ltab []) [] code11 Tryz.f11.results.toList (encT sh11_1.vs d.1) (encH sh11_1.h d.2) K = (fun (a1 : Int) (a2 : Bool) (a3 : Int) (a4 : List ByteArray) (a5 : List (Int × ByteArray)) (K0 : (List Int → List Int → Int → Int → Option Res)) => c30_1 5 a1 a2 a3 a4 a5 (fun x1 x2 => cond (x2 != 0) (K0 [0, 0] [0, 0] 0 x2) (c31_1 5 x1 (fun x3 x4 => cond (x4 != 0) (K0 [0, 0] [0, 0] 0 x4) (c32_1 x3 (fun x5 x6 x7 x8 => K0 x5 x6 x7 x8) )) )) ) d.2.1.2.2.2.1 d.2.1.2.2.2.2.1 d.2.1.2.2.2.2.2.1 d.2.2.1.2.1 d.2.2.2.1.2.1 (fun (y0 : List Int) (y1 : List Int) (y2 : Int) (y3 : Int) => K [.agg [.seq (.int .u64) 2 y0, .seq (.int .u64) 2 y1, .int .u64 y2], .lf (.int .i64 y3)] [some ⟨d.2.1.1, [.full 1, .full 2, .int .i64 d.2.1.2.2.2.1, .bool d.2.1.2.2.2.2.1, .int .i64 d.2.1.2.2.2.2.2.1]⟩, some ⟨d.2.2.1.1, [.seq .str 0 d.2.2.1.2.1]⟩, some ⟨d.2.2.2.1.1, [.seq (.pair (.int .i64) .str) 0 d.2.2.2.1.2.1]⟩]) := by kernel_rfl
theorem E11_1 (F : Nat) (d : sh11_1.den) (K : KF) : evBody Tryz.prog (T11_1 F) (xw []) 29 3 (LT11_1 F) [] code11 Tryz.f11.results.toList (encT sh11_1.vs d.1) (encH sh11_1.h d.2) K = f11_1 F d.2.1.2.2.2.1 d.2.1.2.2.2.2.1 d.2.1.2.2.2.2.2.1 d.2.2.1.2.1 d.2.2.2.1.2.1 (fun (y0 : List Int) (y1 : List Int) (y2 : Int) (y3 : Int) => K [.agg [.seq (.int .u64) 2 y0, .seq (.int .u64) 2 y1, .int .u64 y2], .lf (.int .i64 y3)] [some ⟨d.2.1.1, [.full 1, .full 2, .int .i64 d.2.1.2.2.2.1, .bool d.2.1.2.2.2.2.1, .int .i64 d.2.1.2.2.2.2.2.1]⟩, some ⟨d.2.2.1.1, [.seq .str 0 d.2.2.1.2.1]⟩, some ⟨d.2.2.2.1.1, [.seq (.pair (.int .i64) .str) 0 d.2.2.2.1.2.1]⟩]) := Eq.mp (by kernel_rfl) (E11_1g F (f30_1 F) (f31_1 F) (f32_1 F)   d K)
theorem S11_1_ok (F : Nat) (o : Summ) (ho : SoundFn Tryz.prog 11 o) : SoundFn Tryz.prog 11 (S11_1 F o) :=
  soundFn_of (fn := Tryz.f11) (c := code11) rfl rfl (by kernel_rfl) (tab_cons (S30_1_ok F _ (noS_sound enter30)) (tab_cons (S31_1_ok F _ (noS_sound enter31)) (tab_cons (S32_1_ok F _ (noS_sound enter32)) tab_nil))) (by kernel_rfl) (by kernel_rfl) ho (by rw [loops11]; exact loopsOK_nil) (by rw [scopes11]; exact scopesOK_nil) (by rw [ranges11]; exact rangesOK_nil) (E11_1 F)
end Go.Proofs.YtillbabmlfjegaaGreatDoor.X
end

section
namespace Go.Proofs.YtillbabmlfjegaaGreatDoor.X
open Go Go.Proofs.YtillbabmlfjegaaGreatDoor.Ev Go.Proofs
set_option linter.unusedVariables false
set_option linter.unusedSectionVars false
/-! disk.Disk).Read -/
noncomputable def f30_6206 {β : Type} (F : Nat) (a1 : Int) (K0 : Option β) : Option β := K0
variable [FZ]
def sh30_6206 : Sh := ⟨[.lf (.nilp), .lf (.int .i64)], []⟩
noncomputable def S30_6206 (F : Nat) (o : Summ) : Summ := mkS sh30_6206 (fun d K => f30_6206 F d.1.2.1 (K [.lf (.str ByteArray.empty), .lf (.int .i64 1)] [])) o
noncomputable def T30_6206 (F : Nat) : FuncId → Option Summ := tab []
noncomputable def LT30_6206 (F : Nat) : Nat → Option LoopS := ltab []
theorem E30_6206g (F : Nat)    (d : sh30_6206.den) (K : KF) : evBody Tryz.prog (tab []) (xw []) 34 0 (ltab []) [] code30 Tryz.f30.results.toList (encT sh30_6206.vs d.1) (encH sh30_6206.h d.2) K = (fun (a1 : Int) (K0 : (Option Res)) => K0) d.1.2.1 (K [.lf (.str ByteArray.empty), .lf (.int .i64 1)] []) := by kernel_rfl
theorem E30_6206 (F : Nat) (d : sh30_6206.den) (K : KF) : evBody Tryz.prog (T30_6206 F) (xw []) 34 0 (LT30_6206 F) [] code30 Tryz.f30.results.toList (encT sh30_6206.vs d.1) (encH sh30_6206.h d.2) K = f30_6206 F d.1.2.1 (K [.lf (.str ByteArray.empty), .lf (.int .i64 1)] []) := Eq.mp (by kernel_rfl) (E30_6206g F    d K)
theorem S30_6206_ok (F : Nat) (o : Summ) (ho : SoundFn Tryz.prog 30 o) : SoundFn Tryz.prog 30 (S30_6206 F o) :=
  soundFn_of (fn := Tryz.f30) (c := code30) rfl rfl (by kernel_rfl) tab_nil (by kernel_rfl) (by kernel_rfl) ho (by rw [loops30]; exact loopsOK_nil) (by rw [scopes30]; exact scopesOK_nil) (by rw [ranges30]; exact (rangesOK_skip (by kernel_rfl) rangesOK_nil)) (E30_6206 F)
end Go.Proofs.YtillbabmlfjegaaGreatDoor.X
end

section
namespace Go.Proofs.YtillbabmlfjegaaGreatDoor.X
open Go Go.Proofs.YtillbabmlfjegaaGreatDoor.Ev Go.Proofs
set_option linter.unusedVariables false
set_option linter.unusedSectionVars false
/-! dirty.Load -/
noncomputable def f11_568 {β : Type} (F : Nat)  (K0 : List Int → List Int → Option β) : Option β := f30_6206 F 5 (K0 [0, 0] [0, 0]) 
variable [FZ]
def sh11_568 : Sh := ⟨[.lf (.nilp)], []⟩
noncomputable def S11_568 (F : Nat) (o : Summ) : Summ := mkS sh11_568 (fun d K => f11_568 F (fun (y0 : List Int) (y1 : List Int) => K [.agg [.seq (.int .u64) 2 y0, .seq (.int .u64) 2 y1, .int .u64 0], .lf (.int .i64 1)] [])) o
noncomputable def T11_568 (F : Nat) : FuncId → Option Summ := tab [(30, (S30_6206 F noS))]
noncomputable def LT11_568 (F : Nat) : Nat → Option LoopS := ltab []
theorem E11_568g (F : Nat) (c30_6206 : Int → (Option Res) → Option Res)   (d : sh11_568.den) (K : KF) : evBody Tryz.prog (tab [(30, (mkS sh30_6206 (fun d K => c30_6206 d.1.2.1 (K [.lf (.str ByteArray.empty), .lf (.int .i64 1)] [])) noS))]) (xw []) 29 0 (ltab []) [] code11 Tryz.f11.results.toList (encT sh11_568.vs d.1) (encH sh11_568.h d.2) K = (fun (K0 : (List Int → List Int → Option Res)) => c30_6206 5 (K0 [0, 0] [0, 0]) ) (fun (y0 : List Int) (y1 : List Int) => K [.agg [.seq (.int .u64) 2 y0, .seq (.int .u64) 2 y1, .int .u64 0], .lf (.int .i64 1)] []) := by kernel_rfl
theorem E11_568 (F : Nat) (d : sh11_568.den) (K : KF) : evBody Tryz.prog (T11_568 F) (xw []) 29 0 (LT11_568 F) [] code11 Tryz.f11.results.toList (encT sh11_568.vs d.1) (encH sh11_568.h d.2) K = f11_568 F (fun (y0 : List Int) (y1 : List Int) => K [.agg [.seq (.int .u64) 2 y0, .seq (.int .u64) 2 y1, .int .u64 0], .lf (.int .i64 1)] []) := Eq.mp (by kernel_rfl) (E11_568g F (f30_6206 F)   d K)
theorem S11_568_ok (F : Nat) (o : Summ) (ho : SoundFn Tryz.prog 11 o) : SoundFn Tryz.prog 11 (S11_568 F o) :=
  soundFn_of (fn := Tryz.f11) (c := code11) rfl rfl (by kernel_rfl) (tab_cons (S30_6206_ok F _ (noS_sound enter30)) tab_nil) (by kernel_rfl) (by kernel_rfl) ho (by rw [loops11]; exact loopsOK_nil) (by rw [scopes11]; exact scopesOK_nil) (by rw [ranges11]; exact rangesOK_nil) (E11_568 F)
end Go.Proofs.YtillbabmlfjegaaGreatDoor.X
end

section
namespace Go.Proofs.YtillbabmlfjegaaGreatDoor.X
open Go Go.Proofs.YtillbabmlfjegaaGreatDoor.Ev Go.Proofs
set_option linter.unusedVariables false
set_option linter.unusedSectionVars false
/-! pentimentoref06.Disk).Kept -/
noncomputable def f56_1 {β : Type} (F : Nat) (a1 : Int) (a2 : Int) (a3 : Bool) (a4 : Int) (a5 : List ByteArray) (a6 : List (Int × ByteArray)) (K0 : ByteArray → Int → Option β) : Option β := cond (decide (a1 < 0)) (K0 ByteArray.empty 3) (cond (decide (a1 ≥ ((a5.length : Nat) : Int))) (K0 ByteArray.empty 3) (cond (decide ((0 : Int) ≤ a1 ∧ a1 < ((a5.length : Nat) : Int))) (cond (decide (0 + a1.toNat < a5.length)) (K0 (a5.getD (0 + a1.toNat) ByteArray.empty) 0) none) none))
variable [FZ]
def sh56_1 : Sh := ⟨[.lf (.ptr 0 0), .lf (.int .i64)], [some ⟨none, [.full 1, .full 2, .int .i64, .bool, .int .i64]⟩, some ⟨none, [.seq .str 0]⟩, some ⟨none, [.seq (.pair (.int .i64) .str) 0]⟩]⟩
noncomputable def S56_1 (F : Nat) (o : Summ) : Summ := mkS sh56_1 (fun d K => f56_1 F d.1.2.1 d.2.1.2.2.2.1 d.2.1.2.2.2.2.1 d.2.1.2.2.2.2.2.1 d.2.2.1.2.1 d.2.2.2.1.2.1 (fun (y0 : ByteArray) (y1 : Int) => K [.lf (.str y0), .lf (.int .i64 y1)] [some ⟨d.2.1.1, [.full 1, .full 2, .int .i64 d.2.1.2.2.2.1, .bool d.2.1.2.2.2.2.1, .int .i64 d.2.1.2.2.2.2.2.1]⟩, some ⟨d.2.2.1.1, [.seq .str 0 d.2.2.1.2.1]⟩, some ⟨d.2.2.2.1.1, [.seq (.pair (.int .i64) .str) 0 d.2.2.2.1.2.1]⟩])) o
noncomputable def code56 : Code := bodyOf Tryz.f56
theorem scopes56 : scopesOf code56 = [] := by kernel_rfl
theorem ranges56 : rangesOf code56 = [] := by kernel_rfl
theorem loops56 : loopsOf code56 = [] := by kernel_rfl
theorem enter56 : ∀ args w, (callFunc 56 args).run Tryz.prog w = .ok (.enter 56 args) w := enter_of (fn := Tryz.f56) (by kernel_rfl) (by kernel_rfl) (by kernel_rfl)
noncomputable def T56_1 (F : Nat) : FuncId → Option Summ := tab []
noncomputable def LT56_1 (F : Nat) : Nat → Option LoopS := ltab []
theorem E56_1g (F : Nat)    (d : sh56_1.den) (K : KF) : evBody Tryz.prog (tab []) (xw []) 24 3 (ltab []) [] code56 Tryz.f56.results.toList (encT sh56_1.vs d.1) (encH sh56_1.h d.2) K = (fun (a1 : Int) (a2 : Int) (a3 : Bool) (a4 : Int) (a5 : List ByteArray) (a6 : List (Int × ByteArray)) (K0 : (ByteArray → Int → Option Res)) => cond (decide (a1 < 0)) (K0 ByteArray.empty 3) (cond (decide (a1 ≥ ((a5.length : Nat) : Int))) (K0 ByteArray.empty 3) (cond (decide ((0 : Int) ≤ a1 ∧ a1 < ((a5.length : Nat) : Int))) (cond (decide (0 + a1.toNat < a5.length)) (K0 (a5.getD (0 + a1.toNat) ByteArray.empty) 0) none) none))) d.1.2.1 d.2.1.2.2.2.1 d.2.1.2.2.2.2.1 d.2.1.2.2.2.2.2.1 d.2.2.1.2.1 d.2.2.2.1.2.1 (fun (y0 : ByteArray) (y1 : Int) => K [.lf (.str y0), .lf (.int .i64 y1)] [some ⟨d.2.1.1, [.full 1, .full 2, .int .i64 d.2.1.2.2.2.1, .bool d.2.1.2.2.2.2.1, .int .i64 d.2.1.2.2.2.2.2.1]⟩, some ⟨d.2.2.1.1, [.seq .str 0 d.2.2.1.2.1]⟩, some ⟨d.2.2.2.1.1, [.seq (.pair (.int .i64) .str) 0 d.2.2.2.1.2.1]⟩]) := by kernel_rfl
theorem E56_1 (F : Nat) (d : sh56_1.den) (K : KF) : evBody Tryz.prog (T56_1 F) (xw []) 24 3 (LT56_1 F) [] code56 Tryz.f56.results.toList (encT sh56_1.vs d.1) (encH sh56_1.h d.2) K = f56_1 F d.1.2.1 d.2.1.2.2.2.1 d.2.1.2.2.2.2.1 d.2.1.2.2.2.2.2.1 d.2.2.1.2.1 d.2.2.2.1.2.1 (fun (y0 : ByteArray) (y1 : Int) => K [.lf (.str y0), .lf (.int .i64 y1)] [some ⟨d.2.1.1, [.full 1, .full 2, .int .i64 d.2.1.2.2.2.1, .bool d.2.1.2.2.2.2.1, .int .i64 d.2.1.2.2.2.2.2.1]⟩, some ⟨d.2.2.1.1, [.seq .str 0 d.2.2.1.2.1]⟩, some ⟨d.2.2.2.1.1, [.seq (.pair (.int .i64) .str) 0 d.2.2.2.1.2.1]⟩]) := Eq.mp (by kernel_rfl) (E56_1g F    d K)
theorem S56_1_ok (F : Nat) (o : Summ) (ho : SoundFn Tryz.prog 56 o) : SoundFn Tryz.prog 56 (S56_1 F o) :=
  soundFn_of (fn := Tryz.f56) (c := code56) rfl rfl (by kernel_rfl) tab_nil (by kernel_rfl) (by kernel_rfl) ho (by rw [loops56]; exact loopsOK_nil) (by rw [scopes56]; exact scopesOK_nil) (by rw [ranges56]; exact rangesOK_nil) (E56_1 F)
end Go.Proofs.YtillbabmlfjegaaGreatDoor.X
end

section
namespace Go.Proofs.YtillbabmlfjegaaGreatDoor.X
open Go Go.Proofs.YtillbabmlfjegaaGreatDoor.Ev Go.Proofs
set_option linter.unusedVariables false
set_option linter.unusedSectionVars false
/-! pentimentoref06.Disk).Read -/
noncomputable def f33_1_l5 {β : Type} (F : Nat) (v3 : Int) (v5 : Int) (v7 : Int) (v8 : Bool) (v9 : Int) (v10 : List ByteArray) (v11 : List (Int × ByteArray)) (K0 : ByteArray → Option β) : Nat → ByteArray → Int → Option β
  | 0, _, _ => none
  | k + 1, v4, v6 => cond (decide (v6 < ((v11.length : Nat) : Int))) (cond (v5 == 0) (cond (decide ((0 : Int) ≤ v6 ∧ v6 < ((v11.length : Nat) : Int))) (cond (decide (0 + v6.toNat < v11.length)) (cond (((v11.getD (0 + v6.toNat) (0, ByteArray.empty)).1) == v3) (cond (decide ((0 : Int) ≤ v6 ∧ v6 < ((v11.length : Nat) : Int))) (cond (decide (0 + v6.toNat < v11.length)) (f33_1_l5 F v3 v5 v7 v8 v9 v10 v11 K0 k ((v11.getD (0 + v6.toNat) (0, ByteArray.empty)).2) (IntKind.i64.wrap (v6 + 1))) none) none) (f33_1_l5 F v3 v5 v7 v8 v9 v10 v11 K0 k v4 (IntKind.i64.wrap (v6 + 1)))) none) none) (K0 v4)) (K0 v4)
noncomputable def f33_1 {β : Type} (F : Nat) (a1 : Int) (a2 : Int) (a3 : Bool) (a4 : Int) (a5 : List ByteArray) (a6 : List (Int × ByteArray)) (K0 : ByteArray → Int → Option β) : Option β := cond a3 (K0 ByteArray.empty 5) (f56_1 F a1 a2 a3 a4 a5 a6 (fun x1 x2 => f33_1_l5 F a1 x2 a2 a3 a4 a5 a6 (fun x12 => K0 x12 x2) F x1 0) )
variable [FZ]
def sh33_1 : Sh := ⟨[.lf (.ptr 0 0), .lf (.int .i64)], [some ⟨none, [.full 1, .full 2, .int .i64, .bool, .int .i64]⟩, some ⟨none, [.seq .str 0]⟩, some ⟨none, [.seq (.pair (.int .i64) .str) 0]⟩]⟩
noncomputable def S33_1 (F : Nat) (o : Summ) : Summ := mkS sh33_1 (fun d K => f33_1 F d.1.2.1 d.2.1.2.2.2.1 d.2.1.2.2.2.2.1 d.2.1.2.2.2.2.2.1 d.2.2.1.2.1 d.2.2.2.1.2.1 (fun (y0 : ByteArray) (y1 : Int) => K [.lf (.str y0), .lf (.int .i64 y1)] [some ⟨d.2.1.1, [.full 1, .full 2, .int .i64 d.2.1.2.2.2.1, .bool d.2.1.2.2.2.2.1, .int .i64 d.2.1.2.2.2.2.2.1]⟩, some ⟨d.2.2.1.1, [.seq .str 0 d.2.2.1.2.1]⟩, some ⟨d.2.2.2.1.1, [.seq (.pair (.int .i64) .str) 0 d.2.2.2.1.2.1]⟩])) o
noncomputable def code33 : Code := bodyOf Tryz.f33
noncomputable def b33_0 : Code := cB (cB (cR (cL (cR (cR (cR (code33)))))))
theorem scopes33 : scopesOf code33 = [] := by kernel_rfl
theorem ranges33 : rangesOf code33 = [] := by kernel_rfl
theorem loops33 : loopsOf code33 = [b33_0] := by kernel_rfl
theorem enter33 : ∀ args w, (callFunc 33 args).run Tryz.prog w = .ok (.enter 33 args) w := enter_of (fn := Tryz.f33) (by kernel_rfl) (by kernel_rfl) (by kernel_rfl)
noncomputable def T33_1 (F : Nat) : FuncId → Option Summ := tab [(56, (S56_1 F noS))]
def sh33_1_l5 : Sh := ⟨[.lf (.ptr 0 0), .lf (.int .i64), .lf (.str), .lf (.int .i64), .lf (.int .i64)], [some ⟨none, [.full 1, .full 2, .int .i64, .bool, .int .i64]⟩, some ⟨none, [.seq .str 0]⟩, some ⟨none, [.seq (.pair (.int .i64) .str) 0]⟩]⟩
noncomputable def G33_1_5 (F k : Nat) : LoopS := mkG sh33_1_l5 [0, 1, 6, 7, 8] (outT [(.exit 0, [6, 7])]) (fun d K => f33_1_l5 F d.1.2.1 d.1.2.2.2.1 d.2.1.2.2.2.1 d.2.1.2.2.2.2.1 d.2.1.2.2.2.2.2.1 d.2.2.1.2.1 d.2.2.2.1.2.1 (fun (y0 : ByteArray) => K (.exit 0) [.tv (.lf (.str y0)), .tv (.lf (.int .i64 d.1.2.2.2.1))] [some ⟨d.2.1.1, [.full 1, .full 2, .int .i64 d.2.1.2.2.2.1, .bool d.2.1.2.2.2.2.1, .int .i64 d.2.1.2.2.2.2.2.1]⟩, some ⟨d.2.2.1.1, [.seq .str 0 d.2.2.1.2.1]⟩, some ⟨d.2.2.2.1.1, [.seq (.pair (.int .i64) .str) 0 d.2.2.2.1.2.1]⟩]) k d.1.2.2.1 d.1.2.2.2.2.1) []
noncomputable def LT33_1 (F : Nat) : Nat → Option LoopS := ltab [(5, G33_1_5 F F)]
theorem L33_1_l5g (F k : Nat) (c56_1 : Int → Int → Bool → Int → List ByteArray → List (Int × ByteArray) → (ByteArray → Int → Option Res) → Option Res)  (l5 : Int → Int → Int → Bool → Int → List ByteArray → List (Int × ByteArray) → (ByteArray → Option Res) → Nat → ByteArray → Int → Option Res) (X5 : LoopS) (d : sh33_1_l5.den) (K : KL) : (fun (v3 : Int) (v5 : Int) (v7 : Int) (v8 : Bool) (v9 : Int) (v10 : List ByteArray) (v11 : List (Int × ByteArray)) (K0 : (ByteArray → Option Res)) (k : Nat) (v4 : ByteArray) (v6 : Int) => cond (decide (v6 < ((v11.length : Nat) : Int))) (cond (v5 == 0) (cond (decide ((0 : Int) ≤ v6 ∧ v6 < ((v11.length : Nat) : Int))) (cond (decide (0 + v6.toNat < v11.length)) (cond (((v11.getD (0 + v6.toNat) (0, ByteArray.empty)).1) == v3) (cond (decide ((0 : Int) ≤ v6 ∧ v6 < ((v11.length : Nat) : Int))) (cond (decide (0 + v6.toNat < v11.length)) (l5 v3 v5 v7 v8 v9 v10 v11 K0 k ((v11.getD (0 + v6.toNat) (0, ByteArray.empty)).2) (IntKind.i64.wrap (v6 + 1))) none) none) (l5 v3 v5 v7 v8 v9 v10 v11 K0 k v4 (IntKind.i64.wrap (v6 + 1)))) none) none) (K0 v4)) (K0 v4)) d.1.2.1 d.1.2.2.2.1 d.2.1.2.2.2.1 d.2.1.2.2.2.2.1 d.2.1.2.2.2.2.2.1 d.2.2.1.2.1 d.2.2.2.1.2.1 (fun (y0 : ByteArray) => K (.exit 0) [.tv (.lf (.str y0)), .tv (.lf (.int .i64 d.1.2.2.2.1))] [some ⟨d.2.1.1, [.full 1, .full 2, .int .i64 d.2.1.2.2.2.1, .bool d.2.1.2.2.2.2.1, .int .i64 d.2.1.2.2.2.2.2.1]⟩, some ⟨d.2.2.1.1, [.seq .str 0 d.2.2.1.2.1]⟩, some ⟨d.2.2.2.1.1, [.seq (.pair (.int .i64) .str) 0 d.2.2.2.1.2.1]⟩]) k d.1.2.2.1 d.1.2.2.2.2.1 = roundOf Tryz.prog (tab [(56, (mkS sh56_1 (fun d K => c56_1 d.1.2.1 d.2.1.2.2.2.1 d.2.1.2.2.2.2.1 d.2.1.2.2.2.2.2.1 d.2.2.1.2.1 d.2.2.2.1.2.1 (fun (y0 : ByteArray) (y1 : Int) => K [.lf (.str y0), .lf (.int .i64 y1)] [some ⟨d.2.1.1, [.full 1, .full 2, .int .i64 d.2.1.2.2.2.1, .bool d.2.1.2.2.2.2.1, .int .i64 d.2.1.2.2.2.2.2.1]⟩, some ⟨d.2.2.1.1, [.seq .str 0 d.2.2.1.2.1]⟩, some ⟨d.2.2.2.1.1, [.seq (.pair (.int .i64) .str) 0 d.2.2.2.1.2.1]⟩])) noS))]) (xw []) 52 3 (ltab [(5, X5)]) (mkG sh33_1_l5 [0, 1, 6, 7, 8] (outT [(.exit 0, [6, 7])]) (fun d K => l5 d.1.2.1 d.1.2.2.2.1 d.2.1.2.2.2.1 d.2.1.2.2.2.2.1 d.2.1.2.2.2.2.2.1 d.2.2.1.2.1 d.2.2.2.1.2.1 (fun (y0 : ByteArray) => K (.exit 0) [.tv (.lf (.str y0)), .tv (.lf (.int .i64 d.1.2.2.2.1))] [some ⟨d.2.1.1, [.full 1, .full 2, .int .i64 d.2.1.2.2.2.1, .bool d.2.1.2.2.2.2.1, .int .i64 d.2.1.2.2.2.2.2.1]⟩, some ⟨d.2.2.1.1, [.seq .str 0 d.2.2.1.2.1]⟩, some ⟨d.2.2.2.1.1, [.seq (.pair (.int .i64) .str) 0 d.2.2.2.1.2.1]⟩]) k d.1.2.2.1 d.1.2.2.2.2.1) []) b33_0 (encT sh33_1_l5.vs d.1) (encH sh33_1_l5.h d.2) K := by kernel_rfl
theorem L33_1_5 (F : Nat) : LoopOK Tryz.prog (T33_1 F) (xw []) 52 3 (LT33_1 F) (G33_1_5 F F) b33_0 :=
  loopOK_of (s := sh33_1_l5) (live := [0, 1, 6, 7, 8]) (out := (outT [(.exit 0, [6, 7])])) (mv := []) (fun k d K => f33_1_l5 F d.1.2.1 d.1.2.2.2.1 d.2.1.2.2.2.1 d.2.1.2.2.2.2.1 d.2.1.2.2.2.2.2.1 d.2.2.1.2.1 d.2.2.2.1.2.1 (fun (y0 : ByteArray) => K (.exit 0) [.tv (.lf (.str y0)), .tv (.lf (.int .i64 d.1.2.2.2.1))] [some ⟨d.2.1.1, [.full 1, .full 2, .int .i64 d.2.1.2.2.2.1, .bool d.2.1.2.2.2.2.1, .int .i64 d.2.1.2.2.2.2.2.1]⟩, some ⟨d.2.2.1.1, [.seq .str 0 d.2.2.1.2.1]⟩, some ⟨d.2.2.2.1.1, [.seq (.pair (.int .i64) .str) 0 d.2.2.2.1.2.1]⟩]) k d.1.2.2.1 d.1.2.2.2.2.1) F (fun d K => by kernel_rfl)  (fun k d K => Eq.mp (by kernel_rfl) (L33_1_l5g F k (f56_1 F)  (f33_1_l5 F) (G33_1_5 F F) d K))
theorem E33_1g (F : Nat) (c56_1 : Int → Int → Bool → Int → List ByteArray → List (Int × ByteArray) → (ByteArray → Int → Option Res) → Option Res) (l5 : Int → Int → Int → Bool → Int → List ByteArray → List (Int × ByteArray) → (ByteArray → Option Res) → Nat → ByteArray → Int → Option Res)  (d : sh33_1.den) (K : KF) : evBody Tryz.prog (tab [(56, (mkS sh56_1 (fun d K => c56_1 d.1.2.1 d.2.1.2.2.2.1 d.2.1.2.2.2.2.1 d.2.1.2.2.2.2.2.1 d.2.2.1.2.1 d.2.2.2.1.2.1 (fun (y0 : ByteArray) (y1 : Int) => K [.lf (.str y0), .lf (.int .i64 y1)] [some ⟨d.2.1.1, [.full 1, .full 2, .int .i64 d.2.1.2.2.2.1, .bool d.2.1.2.2.2.2.1, .int .i64 d.2.1.2.2.2.2.2.1]⟩, some ⟨d.2.2.1.1, [.seq .str 0 d.2.2.1.2.1]⟩, some ⟨d.2.2.2.1.1, [.seq (.pair (.int .i64) .str) 0 d.2.2.2.1.2.1]⟩])) noS))]) (xw []) 52 3 (ltab [(5, mkG sh33_1_l5 [0, 1, 6, 7, 8] (outT [(.exit 0, [6, 7])]) (fun d K => l5 d.1.2.1 d.1.2.2.2.1 d.2.1.2.2.2.1 d.2.1.2.2.2.2.1 d.2.1.2.2.2.2.2.1 d.2.2.1.2.1 d.2.2.2.1.2.1 (fun (y0 : ByteArray) => K (.exit 0) [.tv (.lf (.str y0)), .tv (.lf (.int .i64 d.1.2.2.2.1))] [some ⟨d.2.1.1, [.full 1, .full 2, .int .i64 d.2.1.2.2.2.1, .bool d.2.1.2.2.2.2.1, .int .i64 d.2.1.2.2.2.2.2.1]⟩, some ⟨d.2.2.1.1, [.seq .str 0 d.2.2.1.2.1]⟩, some ⟨d.2.2.2.1.1, [.seq (.pair (.int .i64) .str) 0 d.2.2.2.1.2.1]⟩]) F d.1.2.2.1 d.1.2.2.2.2.1) [])]) [] code33 Tryz.f33.results.toList (encT sh33_1.vs d.1) (encH sh33_1.h d.2) K = (fun (a1 : Int) (a2 : Int) (a3 : Bool) (a4 : Int) (a5 : List ByteArray) (a6 : List (Int × ByteArray)) (K0 : (ByteArray → Int → Option Res)) => cond a3 (K0 ByteArray.empty 5) (c56_1 a1 a2 a3 a4 a5 a6 (fun x1 x2 => l5 a1 x2 a2 a3 a4 a5 a6 (fun x12 => K0 x12 x2) F x1 0) )) d.1.2.1 d.2.1.2.2.2.1 d.2.1.2.2.2.2.1 d.2.1.2.2.2.2.2.1 d.2.2.1.2.1 d.2.2.2.1.2.1 (fun (y0 : ByteArray) (y1 : Int) => K [.lf (.str y0), .lf (.int .i64 y1)] [some ⟨d.2.1.1, [.full 1, .full 2, .int .i64 d.2.1.2.2.2.1, .bool d.2.1.2.2.2.2.1, .int .i64 d.2.1.2.2.2.2.2.1]⟩, some ⟨d.2.2.1.1, [.seq .str 0 d.2.2.1.2.1]⟩, some ⟨d.2.2.2.1.1, [.seq (.pair (.int .i64) .str) 0 d.2.2.2.1.2.1]⟩]) := by kernel_rfl
theorem E33_1 (F : Nat) (d : sh33_1.den) (K : KF) : evBody Tryz.prog (T33_1 F) (xw []) 52 3 (LT33_1 F) [] code33 Tryz.f33.results.toList (encT sh33_1.vs d.1) (encH sh33_1.h d.2) K = f33_1 F d.1.2.1 d.2.1.2.2.2.1 d.2.1.2.2.2.2.1 d.2.1.2.2.2.2.2.1 d.2.2.1.2.1 d.2.2.2.1.2.1 (fun (y0 : ByteArray) (y1 : Int) => K [.lf (.str y0), .lf (.int .i64 y1)] [some ⟨d.2.1.1, [.full 1, .full 2, .int .i64 d.2.1.2.2.2.1, .bool d.2.1.2.2.2.2.1, .int .i64 d.2.1.2.2.2.2.2.1]⟩, some ⟨d.2.2.1.1, [.seq .str 0 d.2.2.1.2.1]⟩, some ⟨d.2.2.2.1.1, [.seq (.pair (.int .i64) .str) 0 d.2.2.2.1.2.1]⟩]) := Eq.mp (by kernel_rfl) (E33_1g F (f56_1 F) (f33_1_l5 F)  d K)
theorem S33_1_ok (F : Nat) (o : Summ) (ho : SoundFn Tryz.prog 33 o) : SoundFn Tryz.prog 33 (S33_1 F o) :=
  soundFn_of (fn := Tryz.f33) (c := code33) rfl rfl (by kernel_rfl) (tab_cons (S56_1_ok F _ (noS_sound enter56)) tab_nil) (by kernel_rfl) (by kernel_rfl) ho (by rw [loops33]; exact (loopsOK_cons (by kernel_rfl) (L33_1_5 F) loopsOK_nil)) (by rw [scopes33]; exact scopesOK_nil) (by rw [ranges33]; exact rangesOK_nil) (E33_1 F)
end Go.Proofs.YtillbabmlfjegaaGreatDoor.X
end

section
namespace Go.Proofs.YtillbabmlfjegaaGreatDoor.X
open Go Go.Proofs.YtillbabmlfjegaaGreatDoor.Ev Go.Proofs
set_option linter.unusedVariables false
set_option linter.unusedSectionVars false
/-! pentimentoref05.Right -/
noncomputable def f28_1 {β : Type} (F : Nat) (a1 : ByteArray) (K0 : Bool → Option β) : Option β := K0 ((a1.size : Int) == 64)
variable [FZ]
def sh28_1 : Sh := ⟨[.lf (.str)], []⟩
noncomputable def S28_1 (F : Nat) (o : Summ) : Summ := mkS sh28_1 (fun d K => f28_1 F d.1.1 (fun (y0 : Bool) => K [.lf (.bool y0)] [])) o
noncomputable def code28 : Code := bodyOf Tryz.f28
theorem scopes28 : scopesOf code28 = [] := by kernel_rfl
theorem ranges28 : rangesOf code28 = [] := by kernel_rfl
theorem loops28 : loopsOf code28 = [] := by kernel_rfl
theorem enter28 : ∀ args w, (callFunc 28 args).run Tryz.prog w = .ok (.enter 28 args) w := enter_of (fn := Tryz.f28) (by kernel_rfl) (by kernel_rfl) (by kernel_rfl)
noncomputable def T28_1 (F : Nat) : FuncId → Option Summ := tab []
noncomputable def LT28_1 (F : Nat) : Nat → Option LoopS := ltab []
theorem E28_1g (F : Nat)    (d : sh28_1.den) (K : KF) : evBody Tryz.prog (tab []) (xw []) 6 0 (ltab []) [] code28 Tryz.f28.results.toList (encT sh28_1.vs d.1) (encH sh28_1.h d.2) K = (fun (a1 : ByteArray) (K0 : (Bool → Option Res)) => K0 ((a1.size : Int) == 64)) d.1.1 (fun (y0 : Bool) => K [.lf (.bool y0)] []) := by kernel_rfl
theorem E28_1 (F : Nat) (d : sh28_1.den) (K : KF) : evBody Tryz.prog (T28_1 F) (xw []) 6 0 (LT28_1 F) [] code28 Tryz.f28.results.toList (encT sh28_1.vs d.1) (encH sh28_1.h d.2) K = f28_1 F d.1.1 (fun (y0 : Bool) => K [.lf (.bool y0)] []) := Eq.mp (by kernel_rfl) (E28_1g F    d K)
theorem S28_1_ok (F : Nat) (o : Summ) (ho : SoundFn Tryz.prog 28 o) : SoundFn Tryz.prog 28 (S28_1 F o) :=
  soundFn_of (fn := Tryz.f28) (c := code28) rfl rfl (by kernel_rfl) tab_nil (by kernel_rfl) (by kernel_rfl) ho (by rw [loops28]; exact loopsOK_nil) (by rw [scopes28]; exact scopesOK_nil) (by rw [ranges28]; exact rangesOK_nil) (E28_1 F)
end Go.Proofs.YtillbabmlfjegaaGreatDoor.X
end

section
namespace Go.Proofs.YtillbabmlfjegaaGreatDoor.X
open Go Go.Proofs.YtillbabmlfjegaaGreatDoor.Ev Go.Proofs
set_option linter.unusedVariables false
set_option linter.unusedSectionVars false
/-! pentimentoref01.Put -/
noncomputable def f63_1_l6 {β : Type} (F : Nat) (v1 : Int) (v3 : List Int) (K0 : List Int → Option β) : Nat → Int → List Int → Option β
  | 0, _, _ => none
  | k + 1, v2, v4 => cond (decide (v2 ≥ 0)) (cond (decide (IntKind.u64.wrap (IntKind.i64.wrap (8 * v2)) < 0)) none (cond (decide ((v4.length + 1) * 1 ≤ 70368744177664)) (f63_1_l6 F v1 v3 K0 k (IntKind.i64.wrap (v2 - 1)) (v4 ++ [IntKind.u8.wrap (ishr .u64 v1 (IntKind.u64.wrap (IntKind.i64.wrap (8 * v2))))])) none)) (K0 v4)
noncomputable def f63_1 {β : Type} (F : Nat) (a1 : Int) (a2 : Int) (a3 : List Int) (K0 : List Int → Option β) : Option β := cond (decide (a3.length * 1 ≤ 70368744177664)) (cond (decide (a1 < 1)) (K0 a3) (cond (decide (a1 > 8)) (K0 a3) (f63_1_l6 F a2 a3 (fun x5 => K0 x5) F (IntKind.i64.wrap (a1 - 1)) a3))) none
variable [FZ]
def sh63_1 : Sh := ⟨[.lf (.full 0), .lf (.int .i64), .lf (.int .u64)], [some ⟨none, [.seq (.int .u8) 0]⟩]⟩
noncomputable def S63_1 (F : Nat) (o : Summ) : Summ := mkS sh63_1 (fun d K => f63_1 F d.1.2.1 d.1.2.2.1 d.2.1.2.1 (fun (y1 : List Int) => K [.lf (.full 1)] [some ⟨d.2.1.1, [.seq (.int .u8) 0 d.2.1.2.1]⟩, some ⟨false, [.seq (.int .u8) 0 y1]⟩])) o
noncomputable def code63 : Code := bodyOf Tryz.f63
noncomputable def b63_0 : Code := cB (cB (cR (cL (cR (cR (cR (cR (code63))))))))
theorem scopes63 : scopesOf code63 = [] := by kernel_rfl
theorem ranges63 : rangesOf code63 = [] := by kernel_rfl
theorem loops63 : loopsOf code63 = [b63_0] := by kernel_rfl
theorem enter63 : ∀ args w, (callFunc 63 args).run Tryz.prog w = .ok (.enter 63 args) w := enter_of (fn := Tryz.f63) (by kernel_rfl) (by kernel_rfl) (by kernel_rfl)
noncomputable def T63_1 (F : Nat) : FuncId → Option Summ := tab []
def sh63_1_l6 : Sh := ⟨[.lf (.int .u64), .lf (.full 1), .lf (.int .i64)], [some ⟨none, [.seq (.int .u8) 0]⟩, some ⟨some false, [.seq (.int .u8) 0]⟩]⟩
noncomputable def G63_1_6 (F k : Nat) : LoopS := mkG sh63_1_l6 [2, 7, 8] (outT [(.exit 0, [7])]) (fun d K => f63_1_l6 F d.1.1 d.2.1.2.1 (fun (y1 : List Int) => K (.exit 0) [.tv (.lf (.full 1))] [some ⟨d.2.1.1, [.seq (.int .u8) 0 d.2.1.2.1]⟩, some ⟨false, [.seq (.int .u8) 0 y1]⟩]) k d.1.2.2.1 d.2.2.1.2.1) []
noncomputable def LT63_1 (F : Nat) : Nat → Option LoopS := ltab [(6, G63_1_6 F F)]
theorem L63_1_l6g (F k : Nat)   (l6 : Int → List Int → (List Int → Option Res) → Nat → Int → List Int → Option Res) (X6 : LoopS) (d : sh63_1_l6.den) (K : KL) : (fun (v1 : Int) (v3 : List Int) (K0 : (List Int → Option Res)) (k : Nat) (v2 : Int) (v4 : List Int) => cond (decide (v2 ≥ 0)) (cond (decide (IntKind.u64.wrap (IntKind.i64.wrap (8 * v2)) < 0)) none (cond (decide ((v4.length + 1) * 1 ≤ 70368744177664)) (l6 v1 v3 K0 k (IntKind.i64.wrap (v2 - 1)) (v4 ++ [IntKind.u8.wrap (ishr .u64 v1 (IntKind.u64.wrap (IntKind.i64.wrap (8 * v2))))])) none)) (K0 v4)) d.1.1 d.2.1.2.1 (fun (y1 : List Int) => K (.exit 0) [.tv (.lf (.full 1))] [some ⟨d.2.1.1, [.seq (.int .u8) 0 d.2.1.2.1]⟩, some ⟨false, [.seq (.int .u8) 0 y1]⟩]) k d.1.2.2.1 d.2.2.1.2.1 = roundOf Tryz.prog (tab []) (xw []) 35 1 (ltab [(6, X6)]) (mkG sh63_1_l6 [2, 7, 8] (outT [(.exit 0, [7])]) (fun d K => l6 d.1.1 d.2.1.2.1 (fun (y1 : List Int) => K (.exit 0) [.tv (.lf (.full 1))] [some ⟨d.2.1.1, [.seq (.int .u8) 0 d.2.1.2.1]⟩, some ⟨false, [.seq (.int .u8) 0 y1]⟩]) k d.1.2.2.1 d.2.2.1.2.1) []) b63_0 (encT sh63_1_l6.vs d.1) (encH sh63_1_l6.h d.2) K := by kernel_rfl
theorem L63_1_6 (F : Nat) : LoopOK Tryz.prog (T63_1 F) (xw []) 35 1 (LT63_1 F) (G63_1_6 F F) b63_0 :=
  loopOK_of (s := sh63_1_l6) (live := [2, 7, 8]) (out := (outT [(.exit 0, [7])])) (mv := []) (fun k d K => f63_1_l6 F d.1.1 d.2.1.2.1 (fun (y1 : List Int) => K (.exit 0) [.tv (.lf (.full 1))] [some ⟨d.2.1.1, [.seq (.int .u8) 0 d.2.1.2.1]⟩, some ⟨false, [.seq (.int .u8) 0 y1]⟩]) k d.1.2.2.1 d.2.2.1.2.1) F (fun d K => by kernel_rfl)  (fun k d K => Eq.mp (by kernel_rfl) (L63_1_l6g F k   (f63_1_l6 F) (G63_1_6 F F) d K))
theorem E63_1g (F : Nat)  (l6 : Int → List Int → (List Int → Option Res) → Nat → Int → List Int → Option Res)  (d : sh63_1.den) (K : KF) : evBody Tryz.prog (tab []) (xw []) 35 1 (ltab [(6, mkG sh63_1_l6 [2, 7, 8] (outT [(.exit 0, [7])]) (fun d K => l6 d.1.1 d.2.1.2.1 (fun (y1 : List Int) => K (.exit 0) [.tv (.lf (.full 1))] [some ⟨d.2.1.1, [.seq (.int .u8) 0 d.2.1.2.1]⟩, some ⟨false, [.seq (.int .u8) 0 y1]⟩]) F d.1.2.2.1 d.2.2.1.2.1) [])]) [] code63 Tryz.f63.results.toList (encT sh63_1.vs d.1) (encH sh63_1.h d.2) K = (fun (a1 : Int) (a2 : Int) (a3 : List Int) (K0 : (List Int → Option Res)) => cond (decide (a3.length * 1 ≤ 70368744177664)) (cond (decide (a1 < 1)) (K0 a3) (cond (decide (a1 > 8)) (K0 a3) (l6 a2 a3 (fun x5 => K0 x5) F (IntKind.i64.wrap (a1 - 1)) a3))) none) d.1.2.1 d.1.2.2.1 d.2.1.2.1 (fun (y1 : List Int) => K [.lf (.full 1)] [some ⟨d.2.1.1, [.seq (.int .u8) 0 d.2.1.2.1]⟩, some ⟨false, [.seq (.int .u8) 0 y1]⟩]) := by kernel_rfl
theorem E63_1 (F : Nat) (d : sh63_1.den) (K : KF) : evBody Tryz.prog (T63_1 F) (xw []) 35 1 (LT63_1 F) [] code63 Tryz.f63.results.toList (encT sh63_1.vs d.1) (encH sh63_1.h d.2) K = f63_1 F d.1.2.1 d.1.2.2.1 d.2.1.2.1 (fun (y1 : List Int) => K [.lf (.full 1)] [some ⟨d.2.1.1, [.seq (.int .u8) 0 d.2.1.2.1]⟩, some ⟨false, [.seq (.int .u8) 0 y1]⟩]) := Eq.mp (by kernel_rfl) (E63_1g F  (f63_1_l6 F)  d K)
theorem S63_1_ok (F : Nat) (o : Summ) (ho : SoundFn Tryz.prog 63 o) : SoundFn Tryz.prog 63 (S63_1 F o) :=
  soundFn_of (fn := Tryz.f63) (c := code63) rfl rfl (by kernel_rfl) tab_nil (by kernel_rfl) (by kernel_rfl) ho (by rw [loops63]; exact (loopsOK_cons (by kernel_rfl) (L63_1_6 F) loopsOK_nil)) (by rw [scopes63]; exact scopesOK_nil) (by rw [ranges63]; exact rangesOK_nil) (E63_1 F)
end Go.Proofs.YtillbabmlfjegaaGreatDoor.X
end

section
namespace Go.Proofs.YtillbabmlfjegaaGreatDoor.X
open Go Go.Proofs.YtillbabmlfjegaaGreatDoor.Ev Go.Proofs
set_option linter.unusedVariables false
set_option linter.unusedSectionVars false
/-! pentimentoref01.Text -/
noncomputable def f42_1 {β : Type} (F : Nat) (a1 : Int) (a2 : Int) (K0 : ByteArray → Option β) : Option β := f63_1 F a1 a2 [] (fun x1 => K0 (ofInts x1)) 
variable [FZ]
def sh42_1 : Sh := ⟨[.lf (.int .i64), .lf (.int .u64)], []⟩
noncomputable def S42_1 (F : Nat) (o : Summ) : Summ := mkS sh42_1 (fun d K => f42_1 F d.1.1 d.1.2.1 (fun (y0 : ByteArray) => K [.lf (.str y0)] [])) o
noncomputable def code42 : Code := bodyOf Tryz.f42
theorem scopes42 : scopesOf code42 = [] := by kernel_rfl
theorem ranges42 : rangesOf code42 = [] := by kernel_rfl
theorem loops42 : loopsOf code42 = [] := by kernel_rfl
theorem enter42 : ∀ args w, (callFunc 42 args).run Tryz.prog w = .ok (.enter 42 args) w := enter_of (fn := Tryz.f42) (by kernel_rfl) (by kernel_rfl) (by kernel_rfl)
noncomputable def T42_1 (F : Nat) : FuncId → Option Summ := tab [(63, (S63_1 F noS))]
noncomputable def LT42_1 (F : Nat) : Nat → Option LoopS := ltab []
theorem E42_1g (F : Nat) (c63_1 : Int → Int → List Int → (List Int → Option Res) → Option Res)   (d : sh42_1.den) (K : KF) : evBody Tryz.prog (tab [(63, (mkS sh63_1 (fun d K => c63_1 d.1.2.1 d.1.2.2.1 d.2.1.2.1 (fun (y1 : List Int) => K [.lf (.full 1)] [some ⟨d.2.1.1, [.seq (.int .u8) 0 d.2.1.2.1]⟩, some ⟨false, [.seq (.int .u8) 0 y1]⟩])) noS))]) (xw []) 9 0 (ltab []) [] code42 Tryz.f42.results.toList (encT sh42_1.vs d.1) (encH sh42_1.h d.2) K = (fun (a1 : Int) (a2 : Int) (K0 : (ByteArray → Option Res)) => c63_1 a1 a2 [] (fun x1 => K0 (ofInts x1)) ) d.1.1 d.1.2.1 (fun (y0 : ByteArray) => K [.lf (.str y0)] []) := by kernel_rfl
theorem E42_1 (F : Nat) (d : sh42_1.den) (K : KF) : evBody Tryz.prog (T42_1 F) (xw []) 9 0 (LT42_1 F) [] code42 Tryz.f42.results.toList (encT sh42_1.vs d.1) (encH sh42_1.h d.2) K = f42_1 F d.1.1 d.1.2.1 (fun (y0 : ByteArray) => K [.lf (.str y0)] []) := Eq.mp (by kernel_rfl) (E42_1g F (f63_1 F)   d K)
theorem S42_1_ok (F : Nat) (o : Summ) (ho : SoundFn Tryz.prog 42 o) : SoundFn Tryz.prog 42 (S42_1 F o) :=
  soundFn_of (fn := Tryz.f42) (c := code42) rfl rfl (by kernel_rfl) (tab_cons (S63_1_ok F _ (noS_sound enter63)) tab_nil) (by kernel_rfl) (by kernel_rfl) ho (by rw [loops42]; exact loopsOK_nil) (by rw [scopes42]; exact scopesOK_nil) (by rw [ranges42]; exact rangesOK_nil) (E42_1 F)
end Go.Proofs.YtillbabmlfjegaaGreatDoor.X
end

section
namespace Go.Proofs.YtillbabmlfjegaaGreatDoor.X
open Go Go.Proofs.YtillbabmlfjegaaGreatDoor.Ev Go.Proofs
set_option linter.unusedVariables false
set_option linter.unusedSectionVars false
/-! pentimentoref02.Entry -/
noncomputable def f89_1_l3 {β : Type} (F : Nat)  (K0 : Int → Option β) : Nat → Int → Int → Option β
  | 0, _, _ => none
  | k + 1, v1, v2 => cond (decide (v2 < 8)) (cond ((v1.tmod 2) == 1) (f89_1_l3 F K0 k (ixor .u32 (IntKind.u32.wrap (v1.tdiv 2)) 2197175160) (IntKind.i64.wrap (v2 + 1))) (f89_1_l3 F K0 k (IntKind.u32.wrap (v1.tdiv 2)) (IntKind.i64.wrap (v2 + 1)))) (K0 v1)
noncomputable def f89_1 {β : Type} (F : Nat) (a1 : Int) (K0 : Int → Option β) : Option β := f89_1_l3 F  (fun x3 => K0 x3) F (IntKind.u32.wrap a1) 0
variable [FZ]
def sh89_1 : Sh := ⟨[.lf (.int .u8)], []⟩
noncomputable def S89_1 (F : Nat) (o : Summ) : Summ := mkS sh89_1 (fun d K => f89_1 F d.1.1 (fun (y0 : Int) => K [.lf (.int .u32 y0)] [])) o
noncomputable def code89 : Code := bodyOf Tryz.f89
noncomputable def b89_0 : Code := cB (cB (cR (cL (cR (cR (code89))))))
theorem scopes89 : scopesOf code89 = [] := by kernel_rfl
theorem ranges89 : rangesOf code89 = [] := by kernel_rfl
theorem loops89 : loopsOf code89 = [b89_0] := by kernel_rfl
theorem enter89 : ∀ args w, (callFunc 89 args).run Tryz.prog w = .ok (.enter 89 args) w := enter_of (fn := Tryz.f89) (by kernel_rfl) (by kernel_rfl) (by kernel_rfl)
noncomputable def T89_1 (F : Nat) : FuncId → Option Summ := tab []
def sh89_1_l3 : Sh := ⟨[.lf (.int .u32), .lf (.int .i64)], []⟩
noncomputable def G89_1_3 (F k : Nat) : LoopS := mkG sh89_1_l3 [3, 4] (outT [(.exit 0, [3])]) (fun d K => f89_1_l3 F (fun (y0 : Int) => K (.exit 0) [.tv (.lf (.int .u32 y0))] []) k d.1.1 d.1.2.1) []
noncomputable def LT89_1 (F : Nat) : Nat → Option LoopS := ltab [(3, G89_1_3 F F)]
theorem L89_1_l3g (F k : Nat)   (l3 : (Int → Option Res) → Nat → Int → Int → Option Res) (X3 : LoopS) (d : sh89_1_l3.den) (K : KL) : (fun (K0 : (Int → Option Res)) (k : Nat) (v1 : Int) (v2 : Int) => cond (decide (v2 < 8)) (cond ((v1.tmod 2) == 1) (l3 K0 k (ixor .u32 (IntKind.u32.wrap (v1.tdiv 2)) 2197175160) (IntKind.i64.wrap (v2 + 1))) (l3 K0 k (IntKind.u32.wrap (v1.tdiv 2)) (IntKind.i64.wrap (v2 + 1)))) (K0 v1)) (fun (y0 : Int) => K (.exit 0) [.tv (.lf (.int .u32 y0))] []) k d.1.1 d.1.2.1 = roundOf Tryz.prog (tab []) (xw []) 20 0 (ltab [(3, X3)]) (mkG sh89_1_l3 [3, 4] (outT [(.exit 0, [3])]) (fun d K => l3 (fun (y0 : Int) => K (.exit 0) [.tv (.lf (.int .u32 y0))] []) k d.1.1 d.1.2.1) []) b89_0 (encT sh89_1_l3.vs d.1) (encH sh89_1_l3.h d.2) K := by kernel_rfl
theorem L89_1_3 (F : Nat) : LoopOK Tryz.prog (T89_1 F) (xw []) 20 0 (LT89_1 F) (G89_1_3 F F) b89_0 :=
  loopOK_of (s := sh89_1_l3) (live := [3, 4]) (out := (outT [(.exit 0, [3])])) (mv := []) (fun k d K => f89_1_l3 F (fun (y0 : Int) => K (.exit 0) [.tv (.lf (.int .u32 y0))] []) k d.1.1 d.1.2.1) F (fun d K => by kernel_rfl)  (fun k d K => Eq.mp (by kernel_rfl) (L89_1_l3g F k   (f89_1_l3 F) (G89_1_3 F F) d K))
theorem E89_1g (F : Nat)  (l3 : (Int → Option Res) → Nat → Int → Int → Option Res)  (d : sh89_1.den) (K : KF) : evBody Tryz.prog (tab []) (xw []) 20 0 (ltab [(3, mkG sh89_1_l3 [3, 4] (outT [(.exit 0, [3])]) (fun d K => l3 (fun (y0 : Int) => K (.exit 0) [.tv (.lf (.int .u32 y0))] []) F d.1.1 d.1.2.1) [])]) [] code89 Tryz.f89.results.toList (encT sh89_1.vs d.1) (encH sh89_1.h d.2) K = (fun (a1 : Int) (K0 : (Int → Option Res)) => l3  (fun x3 => K0 x3) F (IntKind.u32.wrap a1) 0) d.1.1 (fun (y0 : Int) => K [.lf (.int .u32 y0)] []) := by kernel_rfl
theorem E89_1 (F : Nat) (d : sh89_1.den) (K : KF) : evBody Tryz.prog (T89_1 F) (xw []) 20 0 (LT89_1 F) [] code89 Tryz.f89.results.toList (encT sh89_1.vs d.1) (encH sh89_1.h d.2) K = f89_1 F d.1.1 (fun (y0 : Int) => K [.lf (.int .u32 y0)] []) := Eq.mp (by kernel_rfl) (E89_1g F  (f89_1_l3 F)  d K)
theorem S89_1_ok (F : Nat) (o : Summ) (ho : SoundFn Tryz.prog 89 o) : SoundFn Tryz.prog 89 (S89_1 F o) :=
  soundFn_of (fn := Tryz.f89) (c := code89) rfl rfl (by kernel_rfl) tab_nil (by kernel_rfl) (by kernel_rfl) ho (by rw [loops89]; exact (loopsOK_cons (by kernel_rfl) (L89_1_3 F) loopsOK_nil)) (by rw [scopes89]; exact scopesOK_nil) (by rw [ranges89]; exact rangesOK_nil) (E89_1 F)
end Go.Proofs.YtillbabmlfjegaaGreatDoor.X
end

section
namespace Go.Proofs.YtillbabmlfjegaaGreatDoor.X
open Go Go.Proofs.YtillbabmlfjegaaGreatDoor.Ev Go.Proofs
set_option linter.unusedVariables false
set_option linter.unusedSectionVars false
/-! pentimentoref02.Add -/
noncomputable def f77_1_l3 {β : Type} (F : Nat) (v3 : List Int) (K0 : Int → Option β) : Nat → Int → Int → Option β
  | 0, _, _ => none
  | k + 1, v1, v2 => cond (decide (v2 < ((v3.length : Nat) : Int))) (cond (decide ((0 : Int) ≤ v2 ∧ v2 < ((v3.length : Nat) : Int))) (cond (decide (0 + v2.toNat < v3.length)) (f89_1 F (ixor .u8 (IntKind.u8.wrap v1) (v3.getD (0 + v2.toNat) 0)) (fun x4 => f77_1_l3 F v3 K0 k (ixor .u32 (IntKind.u32.wrap (v1.tdiv 256)) x4) (IntKind.i64.wrap (v2 + 1))) ) none) none) (K0 v1)
noncomputable def f77_1 {β : Type} (F : Nat) (a1 : Int) (a2 : List Int) (K0 : Int → Option β) : Option β := f77_1_l3 F a2 (fun x5 => K0 (ixor .u32 4294967295 x5)) F (ixor .u32 4294967295 a1) 0
variable [FZ]
def sh77_1 : Sh := ⟨[.lf (.int .u32), .lf (.full 0)], [some ⟨none, [.seq (.int .u8) 0]⟩]⟩
noncomputable def S77_1 (F : Nat) (o : Summ) : Summ := mkS sh77_1 (fun d K => f77_1 F d.1.1 d.2.1.2.1 (fun (y0 : Int) => K [.lf (.int .u32 y0)] [some ⟨d.2.1.1, [.seq (.int .u8) 0 d.2.1.2.1]⟩])) o
noncomputable def code77 : Code := bodyOf Tryz.f77
noncomputable def b77_0 : Code := cB (cB (cR (cL (cR (cR (code77))))))
theorem scopes77 : scopesOf code77 = [] := by kernel_rfl
theorem ranges77 : rangesOf code77 = [] := by kernel_rfl
theorem loops77 : loopsOf code77 = [b77_0] := by kernel_rfl
theorem enter77 : ∀ args w, (callFunc 77 args).run Tryz.prog w = .ok (.enter 77 args) w := enter_of (fn := Tryz.f77) (by kernel_rfl) (by kernel_rfl) (by kernel_rfl)
noncomputable def T77_1 (F : Nat) : FuncId → Option Summ := tab [(89, (S89_1 F noS))]
def sh77_1_l3 : Sh := ⟨[.lf (.full 0), .lf (.int .u32), .lf (.int .i64)], [some ⟨none, [.seq (.int .u8) 0]⟩]⟩
noncomputable def G77_1_3 (F k : Nat) : LoopS := mkG sh77_1_l3 [1, 5, 6] (outT [(.exit 0, [5])]) (fun d K => f77_1_l3 F d.2.1.2.1 (fun (y0 : Int) => K (.exit 0) [.tv (.lf (.int .u32 y0))] [some ⟨d.2.1.1, [.seq (.int .u8) 0 d.2.1.2.1]⟩]) k d.1.2.1 d.1.2.2.1) []
noncomputable def LT77_1 (F : Nat) : Nat → Option LoopS := ltab [(3, G77_1_3 F F)]
theorem L77_1_l3g (F k : Nat) (c89_1 : Int → (Int → Option Res) → Option Res)  (l3 : List Int → (Int → Option Res) → Nat → Int → Int → Option Res) (X3 : LoopS) (d : sh77_1_l3.den) (K : KL) : (fun (v3 : List Int) (K0 : (Int → Option Res)) (k : Nat) (v1 : Int) (v2 : Int) => cond (decide (v2 < ((v3.length : Nat) : Int))) (cond (decide ((0 : Int) ≤ v2 ∧ v2 < ((v3.length : Nat) : Int))) (cond (decide (0 + v2.toNat < v3.length)) (c89_1 (ixor .u8 (IntKind.u8.wrap v1) (v3.getD (0 + v2.toNat) 0)) (fun x4 => l3 v3 K0 k (ixor .u32 (IntKind.u32.wrap (v1.tdiv 256)) x4) (IntKind.i64.wrap (v2 + 1))) ) none) none) (K0 v1)) d.2.1.2.1 (fun (y0 : Int) => K (.exit 0) [.tv (.lf (.int .u32 y0))] [some ⟨d.2.1.1, [.seq (.int .u8) 0 d.2.1.2.1]⟩]) k d.1.2.1 d.1.2.2.1 = roundOf Tryz.prog (tab [(89, (mkS sh89_1 (fun d K => c89_1 d.1.1 (fun (y0 : Int) => K [.lf (.int .u32 y0)] [])) noS))]) (xw []) 28 1 (ltab [(3, X3)]) (mkG sh77_1_l3 [1, 5, 6] (outT [(.exit 0, [5])]) (fun d K => l3 d.2.1.2.1 (fun (y0 : Int) => K (.exit 0) [.tv (.lf (.int .u32 y0))] [some ⟨d.2.1.1, [.seq (.int .u8) 0 d.2.1.2.1]⟩]) k d.1.2.1 d.1.2.2.1) []) b77_0 (encT sh77_1_l3.vs d.1) (encH sh77_1_l3.h d.2) K := by kernel_rfl
theorem L77_1_3 (F : Nat) : LoopOK Tryz.prog (T77_1 F) (xw []) 28 1 (LT77_1 F) (G77_1_3 F F) b77_0 :=
  loopOK_of (s := sh77_1_l3) (live := [1, 5, 6]) (out := (outT [(.exit 0, [5])])) (mv := []) (fun k d K => f77_1_l3 F d.2.1.2.1 (fun (y0 : Int) => K (.exit 0) [.tv (.lf (.int .u32 y0))] [some ⟨d.2.1.1, [.seq (.int .u8) 0 d.2.1.2.1]⟩]) k d.1.2.1 d.1.2.2.1) F (fun d K => by kernel_rfl)  (fun k d K => Eq.mp (by kernel_rfl) (L77_1_l3g F k (f89_1 F)  (f77_1_l3 F) (G77_1_3 F F) d K))
theorem E77_1g (F : Nat) (c89_1 : Int → (Int → Option Res) → Option Res) (l3 : List Int → (Int → Option Res) → Nat → Int → Int → Option Res)  (d : sh77_1.den) (K : KF) : evBody Tryz.prog (tab [(89, (mkS sh89_1 (fun d K => c89_1 d.1.1 (fun (y0 : Int) => K [.lf (.int .u32 y0)] [])) noS))]) (xw []) 28 1 (ltab [(3, mkG sh77_1_l3 [1, 5, 6] (outT [(.exit 0, [5])]) (fun d K => l3 d.2.1.2.1 (fun (y0 : Int) => K (.exit 0) [.tv (.lf (.int .u32 y0))] [some ⟨d.2.1.1, [.seq (.int .u8) 0 d.2.1.2.1]⟩]) F d.1.2.1 d.1.2.2.1) [])]) [] code77 Tryz.f77.results.toList (encT sh77_1.vs d.1) (encH sh77_1.h d.2) K = (fun (a1 : Int) (a2 : List Int) (K0 : (Int → Option Res)) => l3 a2 (fun x5 => K0 (ixor .u32 4294967295 x5)) F (ixor .u32 4294967295 a1) 0) d.1.1 d.2.1.2.1 (fun (y0 : Int) => K [.lf (.int .u32 y0)] [some ⟨d.2.1.1, [.seq (.int .u8) 0 d.2.1.2.1]⟩]) := by kernel_rfl
theorem E77_1 (F : Nat) (d : sh77_1.den) (K : KF) : evBody Tryz.prog (T77_1 F) (xw []) 28 1 (LT77_1 F) [] code77 Tryz.f77.results.toList (encT sh77_1.vs d.1) (encH sh77_1.h d.2) K = f77_1 F d.1.1 d.2.1.2.1 (fun (y0 : Int) => K [.lf (.int .u32 y0)] [some ⟨d.2.1.1, [.seq (.int .u8) 0 d.2.1.2.1]⟩]) := Eq.mp (by kernel_rfl) (E77_1g F (f89_1 F) (f77_1_l3 F)  d K)
theorem S77_1_ok (F : Nat) (o : Summ) (ho : SoundFn Tryz.prog 77 o) : SoundFn Tryz.prog 77 (S77_1 F o) :=
  soundFn_of (fn := Tryz.f77) (c := code77) rfl rfl (by kernel_rfl) (tab_cons (S89_1_ok F _ (noS_sound enter89)) tab_nil) (by kernel_rfl) (by kernel_rfl) ho (by rw [loops77]; exact (loopsOK_cons (by kernel_rfl) (L77_1_3 F) loopsOK_nil)) (by rw [scopes77]; exact scopesOK_nil) (by rw [ranges77]; exact rangesOK_nil) (E77_1 F)
end Go.Proofs.YtillbabmlfjegaaGreatDoor.X
end

section
namespace Go.Proofs.YtillbabmlfjegaaGreatDoor.X
open Go Go.Proofs.YtillbabmlfjegaaGreatDoor.Ev Go.Proofs
set_option linter.unusedVariables false
set_option linter.unusedSectionVars false
/-! pentimentoref02.Sum -/
noncomputable def f62_1 {β : Type} (F : Nat) (a1 : List Int) (K0 : Int → Option β) : Option β := f77_1 F 0 a1 (fun x1 => K0 x1) 
variable [FZ]
def sh62_1 : Sh := ⟨[.lf (.full 0)], [some ⟨none, [.seq (.int .u8) 0]⟩]⟩
noncomputable def S62_1 (F : Nat) (o : Summ) : Summ := mkS sh62_1 (fun d K => f62_1 F d.2.1.2.1 (fun (y0 : Int) => K [.lf (.int .u32 y0)] [some ⟨d.2.1.1, [.seq (.int .u8) 0 d.2.1.2.1]⟩])) o
noncomputable def code62 : Code := bodyOf Tryz.f62
theorem scopes62 : scopesOf code62 = [] := by kernel_rfl
theorem ranges62 : rangesOf code62 = [] := by kernel_rfl
theorem loops62 : loopsOf code62 = [] := by kernel_rfl
theorem enter62 : ∀ args w, (callFunc 62 args).run Tryz.prog w = .ok (.enter 62 args) w := enter_of (fn := Tryz.f62) (by kernel_rfl) (by kernel_rfl) (by kernel_rfl)
noncomputable def T62_1 (F : Nat) : FuncId → Option Summ := tab [(77, (S77_1 F noS))]
noncomputable def LT62_1 (F : Nat) : Nat → Option LoopS := ltab []
theorem E62_1g (F : Nat) (c77_1 : Int → List Int → (Int → Option Res) → Option Res)   (d : sh62_1.den) (K : KF) : evBody Tryz.prog (tab [(77, (mkS sh77_1 (fun d K => c77_1 d.1.1 d.2.1.2.1 (fun (y0 : Int) => K [.lf (.int .u32 y0)] [some ⟨d.2.1.1, [.seq (.int .u8) 0 d.2.1.2.1]⟩])) noS))]) (xw []) 5 1 (ltab []) [] code62 Tryz.f62.results.toList (encT sh62_1.vs d.1) (encH sh62_1.h d.2) K = (fun (a1 : List Int) (K0 : (Int → Option Res)) => c77_1 0 a1 (fun x1 => K0 x1) ) d.2.1.2.1 (fun (y0 : Int) => K [.lf (.int .u32 y0)] [some ⟨d.2.1.1, [.seq (.int .u8) 0 d.2.1.2.1]⟩]) := by kernel_rfl
theorem E62_1 (F : Nat) (d : sh62_1.den) (K : KF) : evBody Tryz.prog (T62_1 F) (xw []) 5 1 (LT62_1 F) [] code62 Tryz.f62.results.toList (encT sh62_1.vs d.1) (encH sh62_1.h d.2) K = f62_1 F d.2.1.2.1 (fun (y0 : Int) => K [.lf (.int .u32 y0)] [some ⟨d.2.1.1, [.seq (.int .u8) 0 d.2.1.2.1]⟩]) := Eq.mp (by kernel_rfl) (E62_1g F (f77_1 F)   d K)
theorem S62_1_ok (F : Nat) (o : Summ) (ho : SoundFn Tryz.prog 62 o) : SoundFn Tryz.prog 62 (S62_1 F o) :=
  soundFn_of (fn := Tryz.f62) (c := code62) rfl rfl (by kernel_rfl) (tab_cons (S77_1_ok F _ (noS_sound enter77)) tab_nil) (by kernel_rfl) (by kernel_rfl) ho (by rw [loops62]; exact loopsOK_nil) (by rw [scopes62]; exact scopesOK_nil) (by rw [ranges62]; exact rangesOK_nil) (E62_1 F)
end Go.Proofs.YtillbabmlfjegaaGreatDoor.X
end

section
namespace Go.Proofs.YtillbabmlfjegaaGreatDoor.X
open Go Go.Proofs.YtillbabmlfjegaaGreatDoor.Ev Go.Proofs
set_option linter.unusedVariables false
set_option linter.unusedSectionVars false
/-! pentimentoref08.Kind -/
noncomputable def f57_1_l8 {β : Type} (F : Nat) (v4 : ByteArray) (K0 : Option β) (K1 : Option β) : Nat → Int → Option β
  | 0, _ => none
  | k + 1, v5 => cond (decide (v5 < 60)) (cond (decide ((0 : Int) ≤ v5 ∧ v5 < (v4.size : Int))) (cond (((v4.data.getD v5.toNat 0).toNat : Int) != 0) (K0) (f57_1_l8 F v4 K0 K1 k (IntKind.i64.wrap (v5 + 1)))) none) (K1)
noncomputable def f57_1 {β : Type} (F : Nat) (a1 : ByteArray) (K0 : Int → Int → Option β) : Option β := f28_1 F a1 (fun x1 => cond (!x1) (K0 0 4) (cond (decide ((0 : Int) ≤ (0 : Int) ∧ (0 : Int) ≤ (60 : Int) ∧ (60 : Int) ≤ (a1.size : Int))) (cond (decide ((0 : Int) ≤ (60 : Int) ∧ (60 : Int) ≤ (a1.size : Int) ∧ (a1.size : Int) ≤ (a1.size : Int))) (f62_1 F (toInts (a1.extract 0 60)) (fun x2 => f42_1 F 4 (IntKind.u64.wrap x2) (fun x3 => cond (!(x3.toList == (a1.extract 60 ((a1.size : Int).toNat)).toList)) (K0 0 9) (cond (decide ((0 : Int) ≤ (0 : Int) ∧ (0 : Int) < (a1.size : Int))) (cond (decide (((a1.data.getD 0 0).toNat : Int) < 1)) (K0 0 6) (cond (decide ((0 : Int) ≤ (0 : Int) ∧ (0 : Int) < (a1.size : Int))) (cond (decide (((a1.data.getD 0 0).toNat : Int) > 8)) (K0 0 6) (cond (decide ((0 : Int) ≤ (1 : Int) ∧ (1 : Int) < (a1.size : Int))) (cond (decide (((a1.data.getD 1 0).toNat : Int) > 58)) (K0 0 6) (cond (decide ((0 : Int) ≤ (1 : Int) ∧ (1 : Int) < (a1.size : Int))) (f57_1_l8 F a1 (K0 0 6) (cond (decide ((0 : Int) ≤ (0 : Int) ∧ (0 : Int) < (a1.size : Int))) (K0 (IntKind.i64.wrap ((a1.data.getD 0 0).toNat : Int)) 0) none) F (IntKind.i64.wrap (2 + (IntKind.i64.wrap ((a1.data.getD 1 0).toNat : Int))))) none)) none)) none)) none)) ) ) none) none)) 
variable [FZ]
def sh57_1 : Sh := ⟨[.lf (.str)], []⟩
noncomputable def S57_1 (F : Nat) (o : Summ) : Summ := mkS sh57_1 (fun d K => f57_1 F d.1.1 (fun (y0 : Int) (y1 : Int) => K [.lf (.int .i64 y0), .lf (.int .i64 y1)] [])) o
noncomputable def code57 : Code := bodyOf Tryz.f57
noncomputable def b57_0 : Code := cB (cB (cR (cL (cR (cR (cR (cR (code57))))))))
theorem scopes57 : scopesOf code57 = [] := by kernel_rfl
theorem ranges57 : rangesOf code57 = [] := by kernel_rfl
theorem loops57 : loopsOf code57 = [b57_0] := by kernel_rfl
theorem enter57 : ∀ args w, (callFunc 57 args).run Tryz.prog w = .ok (.enter 57 args) w := enter_of (fn := Tryz.f57) (by kernel_rfl) (by kernel_rfl) (by kernel_rfl)
noncomputable def T57_1 (F : Nat) : FuncId → Option Summ := tab [(28, (S28_1 F noS)), (42, (S42_1 F noS)), (62, (S62_1 F noS))]
def sh57_1_l8 : Sh := ⟨[.lf (.str), .lf (.int .i64)], []⟩
noncomputable def G57_1_8 (F k : Nat) : LoopS := mkG sh57_1_l8 [0, 4] (outT [(.exit 0, [0]), (.ret, [2, 3])]) (fun d K => f57_1_l8 F d.1.1 (K .ret [.tv (.lf (.int .i64 0)), .tv (.lf (.int .i64 6))] []) (K (.exit 0) [.tv (.lf (.str d.1.1))] []) k d.1.2.1) []
noncomputable def LT57_1 (F : Nat) : Nat → Option LoopS := ltab [(8, G57_1_8 F F)]
theorem L57_1_l8g (F k : Nat) (c28_1 : ByteArray → (Bool → Option Res) → Option Res) (c42_1 : Int → Int → (ByteArray → Option Res) → Option Res) (c62_1 : List Int → (Int → Option Res) → Option Res)  (l8 : ByteArray → (Option Res) → (Option Res) → Nat → Int → Option Res) (X8 : LoopS) (d : sh57_1_l8.den) (K : KL) : (fun (v4 : ByteArray) (K0 : (Option Res)) (K1 : (Option Res)) (k : Nat) (v5 : Int) => cond (decide (v5 < 60)) (cond (decide ((0 : Int) ≤ v5 ∧ v5 < (v4.size : Int))) (cond (((v4.data.getD v5.toNat 0).toNat : Int) != 0) (K0) (l8 v4 K0 K1 k (IntKind.i64.wrap (v5 + 1)))) none) (K1)) d.1.1 (K .ret [.tv (.lf (.int .i64 0)), .tv (.lf (.int .i64 6))] []) (K (.exit 0) [.tv (.lf (.str d.1.1))] []) k d.1.2.1 = roundOf Tryz.prog (tab [(28, (mkS sh28_1 (fun d K => c28_1 d.1.1 (fun (y0 : Bool) => K [.lf (.bool y0)] [])) noS)), (42, (mkS sh42_1 (fun d K => c42_1 d.1.1 d.1.2.1 (fun (y0 : ByteArray) => K [.lf (.str y0)] [])) noS)), (62, (mkS sh62_1 (fun d K => c62_1 d.2.1.2.1 (fun (y0 : Int) => K [.lf (.int .u32 y0)] [some ⟨d.2.1.1, [.seq (.int .u8) 0 d.2.1.2.1]⟩])) noS))]) (xw []) 45 0 (ltab [(8, X8)]) (mkG sh57_1_l8 [0, 4] (outT [(.exit 0, [0]), (.ret, [2, 3])]) (fun d K => l8 d.1.1 (K .ret [.tv (.lf (.int .i64 0)), .tv (.lf (.int .i64 6))] []) (K (.exit 0) [.tv (.lf (.str d.1.1))] []) k d.1.2.1) []) b57_0 (encT sh57_1_l8.vs d.1) (encH sh57_1_l8.h d.2) K := by kernel_rfl
theorem L57_1_8 (F : Nat) : LoopOK Tryz.prog (T57_1 F) (xw []) 45 0 (LT57_1 F) (G57_1_8 F F) b57_0 :=
  loopOK_of (s := sh57_1_l8) (live := [0, 4]) (out := (outT [(.exit 0, [0]), (.ret, [2, 3])])) (mv := []) (fun k d K => f57_1_l8 F d.1.1 (K .ret [.tv (.lf (.int .i64 0)), .tv (.lf (.int .i64 6))] []) (K (.exit 0) [.tv (.lf (.str d.1.1))] []) k d.1.2.1) F (fun d K => by kernel_rfl)  (fun k d K => Eq.mp (by kernel_rfl) (L57_1_l8g F k (f28_1 F) (f42_1 F) (f62_1 F)  (f57_1_l8 F) (G57_1_8 F F) d K))
theorem E57_1g (F : Nat) (c28_1 : ByteArray → (Bool → Option Res) → Option Res) (c42_1 : Int → Int → (ByteArray → Option Res) → Option Res) (c62_1 : List Int → (Int → Option Res) → Option Res) (l8 : ByteArray → (Option Res) → (Option Res) → Nat → Int → Option Res)  (d : sh57_1.den) (K : KF) : evBody Tryz.prog (tab [(28, (mkS sh28_1 (fun d K => c28_1 d.1.1 (fun (y0 : Bool) => K [.lf (.bool y0)] [])) noS)), (42, (mkS sh42_1 (fun d K => c42_1 d.1.1 d.1.2.1 (fun (y0 : ByteArray) => K [.lf (.str y0)] [])) noS)), (62, (mkS sh62_1 (fun d K => c62_1 d.2.1.2.1 (fun (y0 : Int) => K [.lf (.int .u32 y0)] [some ⟨d.2.1.1, [.seq (.int .u8) 0 d.2.1.2.1]⟩])) noS))]) (xw []) 45 0 (ltab [(8, mkG sh57_1_l8 [0, 4] (outT [(.exit 0, [0]), (.ret, [2, 3])]) (fun d K => l8 d.1.1 (K .ret [.tv (.lf (.int .i64 0)), .tv (.lf (.int .i64 6))] []) (K (.exit 0) [.tv (.lf (.str d.1.1))] []) F d.1.2.1) [])]) [] code57 Tryz.f57.results.toList (encT sh57_1.vs d.1) (encH sh57_1.h d.2) K = (fun (a1 : ByteArray) (K0 : (Int → Int → Option Res)) => c28_1 a1 (fun x1 => cond (!x1) (K0 0 4) (cond (decide ((0 : Int) ≤ (0 : Int) ∧ (0 : Int) ≤ (60 : Int) ∧ (60 : Int) ≤ (a1.size : Int))) (cond (decide ((0 : Int) ≤ (60 : Int) ∧ (60 : Int) ≤ (a1.size : Int) ∧ (a1.size : Int) ≤ (a1.size : Int))) (c62_1 (toInts (a1.extract 0 60)) (fun x2 => c42_1 4 (IntKind.u64.wrap x2) (fun x3 => cond (!(x3.toList == (a1.extract 60 ((a1.size : Int).toNat)).toList)) (K0 0 9) (cond (decide ((0 : Int) ≤ (0 : Int) ∧ (0 : Int) < (a1.size : Int))) (cond (decide (((a1.data.getD 0 0).toNat : Int) < 1)) (K0 0 6) (cond (decide ((0 : Int) ≤ (0 : Int) ∧ (0 : Int) < (a1.size : Int))) (cond (decide (((a1.data.getD 0 0).toNat : Int) > 8)) (K0 0 6) (cond (decide ((0 : Int) ≤ (1 : Int) ∧ (1 : Int) < (a1.size : Int))) (cond (decide (((a1.data.getD 1 0).toNat : Int) > 58)) (K0 0 6) (cond (decide ((0 : Int) ≤ (1 : Int) ∧ (1 : Int) < (a1.size : Int))) (l8 a1 (K0 0 6) (cond (decide ((0 : Int) ≤ (0 : Int) ∧ (0 : Int) < (a1.size : Int))) (K0 (IntKind.i64.wrap ((a1.data.getD 0 0).toNat : Int)) 0) none) F (IntKind.i64.wrap (2 + (IntKind.i64.wrap ((a1.data.getD 1 0).toNat : Int))))) none)) none)) none)) none)) ) ) none) none)) ) d.1.1 (fun (y0 : Int) (y1 : Int) => K [.lf (.int .i64 y0), .lf (.int .i64 y1)] []) := by kernel_rfl
theorem E57_1 (F : Nat) (d : sh57_1.den) (K : KF) : evBody Tryz.prog (T57_1 F) (xw []) 45 0 (LT57_1 F) [] code57 Tryz.f57.results.toList (encT sh57_1.vs d.1) (encH sh57_1.h d.2) K = f57_1 F d.1.1 (fun (y0 : Int) (y1 : Int) => K [.lf (.int .i64 y0), .lf (.int .i64 y1)] []) := Eq.mp (by kernel_rfl) (E57_1g F (f28_1 F) (f42_1 F) (f62_1 F) (f57_1_l8 F)  d K)
theorem S57_1_ok (F : Nat) (o : Summ) (ho : SoundFn Tryz.prog 57 o) : SoundFn Tryz.prog 57 (S57_1 F o) :=
  soundFn_of (fn := Tryz.f57) (c := code57) rfl rfl (by kernel_rfl) (tab_cons (S28_1_ok F _ (noS_sound enter28)) (tab_cons (S42_1_ok F _ (noS_sound enter42)) (tab_cons (S62_1_ok F _ (noS_sound enter62)) tab_nil))) (by kernel_rfl) (by kernel_rfl) ho (by rw [loops57]; exact (loopsOK_cons (by kernel_rfl) (L57_1_8 F) loopsOK_nil)) (by rw [scopes57]; exact scopesOK_nil) (by rw [ranges57]; exact rangesOK_nil) (E57_1 F)
end Go.Proofs.YtillbabmlfjegaaGreatDoor.X
end

section
namespace Go.Proofs.YtillbabmlfjegaaGreatDoor.X
open Go Go.Proofs.YtillbabmlfjegaaGreatDoor.Ev Go.Proofs
set_option linter.unusedVariables false
set_option linter.unusedSectionVars false
/-! pentimentoref08.Open -/
noncomputable def f34_1 {β : Type} (F : Nat) (a1 : Int) (a2 : ByteArray) (K0 : ByteArray → Int → Option β) : Option β := f57_1 F a2 (fun x1 x2 => cond (x2 != 0) (K0 ByteArray.empty x2) (cond (x1 != a1) (K0 ByteArray.empty 22) (cond (decide ((0 : Int) ≤ (1 : Int) ∧ (1 : Int) < (a2.size : Int))) (cond (decide ((0 : Int) ≤ (2 : Int) ∧ (2 : Int) ≤ IntKind.i64.wrap (2 + (IntKind.i64.wrap ((a2.data.getD 1 0).toNat : Int))) ∧ IntKind.i64.wrap (2 + (IntKind.i64.wrap ((a2.data.getD 1 0).toNat : Int))) ≤ (a2.size : Int))) (K0 (a2.extract 2 ((IntKind.i64.wrap (2 + (IntKind.i64.wrap ((a2.data.getD 1 0).toNat : Int)))).toNat)) 0) none) none))) 
variable [FZ]
def sh34_1 : Sh := ⟨[.lf (.int .i64), .lf (.str)], []⟩
noncomputable def S34_1 (F : Nat) (o : Summ) : Summ := mkS sh34_1 (fun d K => f34_1 F d.1.1 d.1.2.1 (fun (y0 : ByteArray) (y1 : Int) => K [.lf (.str y0), .lf (.int .i64 y1)] [])) o
noncomputable def code34 : Code := bodyOf Tryz.f34
theorem scopes34 : scopesOf code34 = [] := by kernel_rfl
theorem ranges34 : rangesOf code34 = [] := by kernel_rfl
theorem loops34 : loopsOf code34 = [] := by kernel_rfl
theorem enter34 : ∀ args w, (callFunc 34 args).run Tryz.prog w = .ok (.enter 34 args) w := enter_of (fn := Tryz.f34) (by kernel_rfl) (by kernel_rfl) (by kernel_rfl)
noncomputable def T34_1 (F : Nat) : FuncId → Option Summ := tab [(57, (S57_1 F noS))]
noncomputable def LT34_1 (F : Nat) : Nat → Option LoopS := ltab []
theorem E34_1g (F : Nat) (c57_1 : ByteArray → (Int → Int → Option Res) → Option Res)   (d : sh34_1.den) (K : KF) : evBody Tryz.prog (tab [(57, (mkS sh57_1 (fun d K => c57_1 d.1.1 (fun (y0 : Int) (y1 : Int) => K [.lf (.int .i64 y0), .lf (.int .i64 y1)] [])) noS))]) (xw []) 25 0 (ltab []) [] code34 Tryz.f34.results.toList (encT sh34_1.vs d.1) (encH sh34_1.h d.2) K = (fun (a1 : Int) (a2 : ByteArray) (K0 : (ByteArray → Int → Option Res)) => c57_1 a2 (fun x1 x2 => cond (x2 != 0) (K0 ByteArray.empty x2) (cond (x1 != a1) (K0 ByteArray.empty 22) (cond (decide ((0 : Int) ≤ (1 : Int) ∧ (1 : Int) < (a2.size : Int))) (cond (decide ((0 : Int) ≤ (2 : Int) ∧ (2 : Int) ≤ IntKind.i64.wrap (2 + (IntKind.i64.wrap ((a2.data.getD 1 0).toNat : Int))) ∧ IntKind.i64.wrap (2 + (IntKind.i64.wrap ((a2.data.getD 1 0).toNat : Int))) ≤ (a2.size : Int))) (K0 (a2.extract 2 ((IntKind.i64.wrap (2 + (IntKind.i64.wrap ((a2.data.getD 1 0).toNat : Int)))).toNat)) 0) none) none))) ) d.1.1 d.1.2.1 (fun (y0 : ByteArray) (y1 : Int) => K [.lf (.str y0), .lf (.int .i64 y1)] []) := by kernel_rfl
theorem E34_1 (F : Nat) (d : sh34_1.den) (K : KF) : evBody Tryz.prog (T34_1 F) (xw []) 25 0 (LT34_1 F) [] code34 Tryz.f34.results.toList (encT sh34_1.vs d.1) (encH sh34_1.h d.2) K = f34_1 F d.1.1 d.1.2.1 (fun (y0 : ByteArray) (y1 : Int) => K [.lf (.str y0), .lf (.int .i64 y1)] []) := Eq.mp (by kernel_rfl) (E34_1g F (f57_1 F)   d K)
theorem S34_1_ok (F : Nat) (o : Summ) (ho : SoundFn Tryz.prog 34 o) : SoundFn Tryz.prog 34 (S34_1 F o) :=
  soundFn_of (fn := Tryz.f34) (c := code34) rfl rfl (by kernel_rfl) (tab_cons (S57_1_ok F _ (noS_sound enter57)) tab_nil) (by kernel_rfl) (by kernel_rfl) ho (by rw [loops34]; exact loopsOK_nil) (by rw [scopes34]; exact scopesOK_nil) (by rw [ranges34]; exact rangesOK_nil) (E34_1 F)
end Go.Proofs.YtillbabmlfjegaaGreatDoor.X
end

section
namespace Go.Proofs.YtillbabmlfjegaaGreatDoor.X
open Go Go.Proofs.YtillbabmlfjegaaGreatDoor.Ev Go.Proofs
set_option linter.unusedVariables false
set_option linter.unusedSectionVars false
/-! pentimentoref01.Get -/
noncomputable def f36_1_l7 {β : Type} (F : Nat) (v1 : Int) (v2 : Int) (v5 : List Int) (K0 : Int → Option β) : Nat → Int → Int → Option β
  | 0, _, _ => none
  | k + 1, v3, v4 => cond (decide (v4 < v2)) (cond (decide ((0 : Int) ≤ IntKind.i64.wrap (v1 + v4) ∧ IntKind.i64.wrap (v1 + v4) < ((v5.length : Nat) : Int))) (cond (decide (0 + ((IntKind.i64.wrap (v1 + v4)).toNat) < v5.length)) (f36_1_l7 F v1 v2 v5 K0 k (IntKind.u64.wrap ((IntKind.u64.wrap (v3 * 256)) + (IntKind.u64.wrap (v5.getD (0 + ((IntKind.i64.wrap (v1 + v4)).toNat)) 0)))) (IntKind.i64.wrap (v4 + 1))) none) none) (K0 v3)
noncomputable def f36_1 {β : Type} (F : Nat) (a1 : Int) (a2 : Int) (a3 : List Int) (K0 : Int → Int → Option β) : Option β := cond (decide (a2 < 1)) (K0 0 2) (cond (decide (a2 > 8)) (K0 0 2) (cond (decide (a1 < 0)) (K0 0 2) (cond (decide (a1 > ((a3.length : Nat) : Int))) (K0 0 7) (cond (decide (IntKind.i64.wrap (((a3.length : Nat) : Int) - a1) < a2)) (K0 0 7) (f36_1_l7 F a1 a2 a3 (fun x6 => K0 x6 0) F 0 0)))))
variable [FZ]
def sh36_1 : Sh := ⟨[.lf (.full 0), .lf (.int .i64), .lf (.int .i64)], [some ⟨none, [.seq (.int .u8) 0]⟩]⟩
noncomputable def S36_1 (F : Nat) (o : Summ) : Summ := mkS sh36_1 (fun d K => f36_1 F d.1.2.1 d.1.2.2.1 d.2.1.2.1 (fun (y0 : Int) (y1 : Int) => K [.lf (.int .u64 y0), .lf (.int .i64 y1)] [some ⟨d.2.1.1, [.seq (.int .u8) 0 d.2.1.2.1]⟩])) o
noncomputable def code36 : Code := bodyOf Tryz.f36
noncomputable def b36_0 : Code := cB (cB (cR (cL (cR (cR (cR (cR (code36))))))))
theorem scopes36 : scopesOf code36 = [] := by kernel_rfl
theorem ranges36 : rangesOf code36 = [] := by kernel_rfl
theorem loops36 : loopsOf code36 = [b36_0] := by kernel_rfl
theorem enter36 : ∀ args w, (callFunc 36 args).run Tryz.prog w = .ok (.enter 36 args) w := enter_of (fn := Tryz.f36) (by kernel_rfl) (by kernel_rfl) (by kernel_rfl)
noncomputable def T36_1 (F : Nat) : FuncId → Option Summ := tab []
def sh36_1_l7 : Sh := ⟨[.lf (.full 0), .lf (.int .i64), .lf (.int .i64), .lf (.int .u64), .lf (.int .i64)], [some ⟨none, [.seq (.int .u8) 0]⟩]⟩
noncomputable def G36_1_7 (F k : Nat) : LoopS := mkG sh36_1_l7 [0, 1, 2, 8, 9] (outT [(.exit 0, [8])]) (fun d K => f36_1_l7 F d.1.2.1 d.1.2.2.1 d.2.1.2.1 (fun (y0 : Int) => K (.exit 0) [.tv (.lf (.int .u64 y0))] [some ⟨d.2.1.1, [.seq (.int .u8) 0 d.2.1.2.1]⟩]) k d.1.2.2.2.1 d.1.2.2.2.2.1) []
noncomputable def LT36_1 (F : Nat) : Nat → Option LoopS := ltab [(7, G36_1_7 F F)]
theorem L36_1_l7g (F k : Nat)   (l7 : Int → Int → List Int → (Int → Option Res) → Nat → Int → Int → Option Res) (X7 : LoopS) (d : sh36_1_l7.den) (K : KL) : (fun (v1 : Int) (v2 : Int) (v5 : List Int) (K0 : (Int → Option Res)) (k : Nat) (v3 : Int) (v4 : Int) => cond (decide (v4 < v2)) (cond (decide ((0 : Int) ≤ IntKind.i64.wrap (v1 + v4) ∧ IntKind.i64.wrap (v1 + v4) < ((v5.length : Nat) : Int))) (cond (decide (0 + ((IntKind.i64.wrap (v1 + v4)).toNat) < v5.length)) (l7 v1 v2 v5 K0 k (IntKind.u64.wrap ((IntKind.u64.wrap (v3 * 256)) + (IntKind.u64.wrap (v5.getD (0 + ((IntKind.i64.wrap (v1 + v4)).toNat)) 0)))) (IntKind.i64.wrap (v4 + 1))) none) none) (K0 v3)) d.1.2.1 d.1.2.2.1 d.2.1.2.1 (fun (y0 : Int) => K (.exit 0) [.tv (.lf (.int .u64 y0))] [some ⟨d.2.1.1, [.seq (.int .u8) 0 d.2.1.2.1]⟩]) k d.1.2.2.2.1 d.1.2.2.2.2.1 = roundOf Tryz.prog (tab []) (xw []) 48 1 (ltab [(7, X7)]) (mkG sh36_1_l7 [0, 1, 2, 8, 9] (outT [(.exit 0, [8])]) (fun d K => l7 d.1.2.1 d.1.2.2.1 d.2.1.2.1 (fun (y0 : Int) => K (.exit 0) [.tv (.lf (.int .u64 y0))] [some ⟨d.2.1.1, [.seq (.int .u8) 0 d.2.1.2.1]⟩]) k d.1.2.2.2.1 d.1.2.2.2.2.1) []) b36_0 (encT sh36_1_l7.vs d.1) (encH sh36_1_l7.h d.2) K := by kernel_rfl
theorem L36_1_7 (F : Nat) : LoopOK Tryz.prog (T36_1 F) (xw []) 48 1 (LT36_1 F) (G36_1_7 F F) b36_0 :=
  loopOK_of (s := sh36_1_l7) (live := [0, 1, 2, 8, 9]) (out := (outT [(.exit 0, [8])])) (mv := []) (fun k d K => f36_1_l7 F d.1.2.1 d.1.2.2.1 d.2.1.2.1 (fun (y0 : Int) => K (.exit 0) [.tv (.lf (.int .u64 y0))] [some ⟨d.2.1.1, [.seq (.int .u8) 0 d.2.1.2.1]⟩]) k d.1.2.2.2.1 d.1.2.2.2.2.1) F (fun d K => by kernel_rfl)  (fun k d K => Eq.mp (by kernel_rfl) (L36_1_l7g F k   (f36_1_l7 F) (G36_1_7 F F) d K))
theorem E36_1g (F : Nat)  (l7 : Int → Int → List Int → (Int → Option Res) → Nat → Int → Int → Option Res)  (d : sh36_1.den) (K : KF) : evBody Tryz.prog (tab []) (xw []) 48 1 (ltab [(7, mkG sh36_1_l7 [0, 1, 2, 8, 9] (outT [(.exit 0, [8])]) (fun d K => l7 d.1.2.1 d.1.2.2.1 d.2.1.2.1 (fun (y0 : Int) => K (.exit 0) [.tv (.lf (.int .u64 y0))] [some ⟨d.2.1.1, [.seq (.int .u8) 0 d.2.1.2.1]⟩]) F d.1.2.2.2.1 d.1.2.2.2.2.1) [])]) [] code36 Tryz.f36.results.toList (encT sh36_1.vs d.1) (encH sh36_1.h d.2) K = (fun (a1 : Int) (a2 : Int) (a3 : List Int) (K0 : (Int → Int → Option Res)) => cond (decide (a2 < 1)) (K0 0 2) (cond (decide (a2 > 8)) (K0 0 2) (cond (decide (a1 < 0)) (K0 0 2) (cond (decide (a1 > ((a3.length : Nat) : Int))) (K0 0 7) (cond (decide (IntKind.i64.wrap (((a3.length : Nat) : Int) - a1) < a2)) (K0 0 7) (l7 a1 a2 a3 (fun x6 => K0 x6 0) F 0 0)))))) d.1.2.1 d.1.2.2.1 d.2.1.2.1 (fun (y0 : Int) (y1 : Int) => K [.lf (.int .u64 y0), .lf (.int .i64 y1)] [some ⟨d.2.1.1, [.seq (.int .u8) 0 d.2.1.2.1]⟩]) := by kernel_rfl
theorem E36_1 (F : Nat) (d : sh36_1.den) (K : KF) : evBody Tryz.prog (T36_1 F) (xw []) 48 1 (LT36_1 F) [] code36 Tryz.f36.results.toList (encT sh36_1.vs d.1) (encH sh36_1.h d.2) K = f36_1 F d.1.2.1 d.1.2.2.1 d.2.1.2.1 (fun (y0 : Int) (y1 : Int) => K [.lf (.int .u64 y0), .lf (.int .i64 y1)] [some ⟨d.2.1.1, [.seq (.int .u8) 0 d.2.1.2.1]⟩]) := Eq.mp (by kernel_rfl) (E36_1g F  (f36_1_l7 F)  d K)
theorem S36_1_ok (F : Nat) (o : Summ) (ho : SoundFn Tryz.prog 36 o) : SoundFn Tryz.prog 36 (S36_1 F o) :=
  soundFn_of (fn := Tryz.f36) (c := code36) rfl rfl (by kernel_rfl) tab_nil (by kernel_rfl) (by kernel_rfl) ho (by rw [loops36]; exact (loopsOK_cons (by kernel_rfl) (L36_1_7 F) loopsOK_nil)) (by rw [scopes36]; exact scopesOK_nil) (by rw [ranges36]; exact rangesOK_nil) (E36_1 F)
end Go.Proofs.YtillbabmlfjegaaGreatDoor.X
end

section
namespace Go.Proofs.YtillbabmlfjegaaGreatDoor.X
open Go Go.Proofs.YtillbabmlfjegaaGreatDoor.Ev Go.Proofs
set_option linter.unusedVariables false
set_option linter.unusedSectionVars false
/-! pentimentoref10.From -/
noncomputable def f35_1 {β : Type} (F : Nat) (a1 : ByteArray) (K0 : List Int → Int → Option β) : Option β := cond ((a1.size : Int) != 16) (K0 [0, 0] 4) (f36_1 F 0 8 (toInts a1) (fun x1 x2 => f36_1 F 8 8 (toInts a1) (fun x3 x4 => K0 [x1, x3] 0) ) )
variable [FZ]
def sh35_1 : Sh := ⟨[.lf (.str)], []⟩
noncomputable def S35_1 (F : Nat) (o : Summ) : Summ := mkS sh35_1 (fun d K => f35_1 F d.1.1 (fun (y0 : List Int) (y1 : Int) => K [.agg [.seq (.int .u64) 2 y0], .lf (.int .i64 y1)] [])) o
noncomputable def code35 : Code := bodyOf Tryz.f35
theorem scopes35 : scopesOf code35 = [] := by kernel_rfl
theorem ranges35 : rangesOf code35 = [] := by kernel_rfl
theorem loops35 : loopsOf code35 = [] := by kernel_rfl
theorem enter35 : ∀ args w, (callFunc 35 args).run Tryz.prog w = .ok (.enter 35 args) w := enter_of (fn := Tryz.f35) (by kernel_rfl) (by kernel_rfl) (by kernel_rfl)
noncomputable def T35_1 (F : Nat) : FuncId → Option Summ := tab [(36, (S36_1 F noS))]
noncomputable def LT35_1 (F : Nat) : Nat → Option LoopS := ltab []
theorem E35_1g (F : Nat) (c36_1 : Int → Int → List Int → (Int → Int → Option Res) → Option Res)   (d : sh35_1.den) (K : KF) : evBody Tryz.prog (tab [(36, (mkS sh36_1 (fun d K => c36_1 d.1.2.1 d.1.2.2.1 d.2.1.2.1 (fun (y0 : Int) (y1 : Int) => K [.lf (.int .u64 y0), .lf (.int .i64 y1)] [some ⟨d.2.1.1, [.seq (.int .u8) 0 d.2.1.2.1]⟩])) noS))]) (xw []) 27 0 (ltab []) [] code35 Tryz.f35.results.toList (encT sh35_1.vs d.1) (encH sh35_1.h d.2) K = (fun (a1 : ByteArray) (K0 : (List Int → Int → Option Res)) => cond ((a1.size : Int) != 16) (K0 [0, 0] 4) (c36_1 0 8 (toInts a1) (fun x1 x2 => c36_1 8 8 (toInts a1) (fun x3 x4 => K0 [x1, x3] 0) ) )) d.1.1 (fun (y0 : List Int) (y1 : Int) => K [.agg [.seq (.int .u64) 2 y0], .lf (.int .i64 y1)] []) := by kernel_rfl
theorem E35_1 (F : Nat) (d : sh35_1.den) (K : KF) : evBody Tryz.prog (T35_1 F) (xw []) 27 0 (LT35_1 F) [] code35 Tryz.f35.results.toList (encT sh35_1.vs d.1) (encH sh35_1.h d.2) K = f35_1 F d.1.1 (fun (y0 : List Int) (y1 : Int) => K [.agg [.seq (.int .u64) 2 y0], .lf (.int .i64 y1)] []) := Eq.mp (by kernel_rfl) (E35_1g F (f36_1 F)   d K)
theorem S35_1_ok (F : Nat) (o : Summ) (ho : SoundFn Tryz.prog 35 o) : SoundFn Tryz.prog 35 (S35_1 F o) :=
  soundFn_of (fn := Tryz.f35) (c := code35) rfl rfl (by kernel_rfl) (tab_cons (S36_1_ok F _ (noS_sound enter36)) tab_nil) (by kernel_rfl) (by kernel_rfl) ho (by rw [loops35]; exact loopsOK_nil) (by rw [scopes35]; exact scopesOK_nil) (by rw [ranges35]; exact rangesOK_nil) (E35_1 F)
end Go.Proofs.YtillbabmlfjegaaGreatDoor.X
end

section
namespace Go.Proofs.YtillbabmlfjegaaGreatDoor.X
open Go Go.Proofs.YtillbabmlfjegaaGreatDoor.Ev Go.Proofs
set_option linter.unusedVariables false
set_option linter.unusedSectionVars false
/-! pentimentoref11.Load -/
noncomputable def f12_1 {β : Type} (F : Nat) (a1 : Int) (a2 : Bool) (a3 : Int) (a4 : List ByteArray) (a5 : List (Int × ByteArray)) (K0 : List Int → List Int → Int → Int → Option β) : Option β := f33_1 F 5 a1 a2 a3 a4 a5 (fun x1 x2 => cond (x2 != 0) (K0 [0, 0] [0, 0] 0 x2) (f34_1 F 5 x1 (fun x3 x4 => cond (x4 != 0) (K0 [0, 0] [0, 0] 0 x4) (cond ((x3.size : Int) != 40) (K0 [0, 0] [0, 0] 0 6) (cond (decide ((0 : Int) ≤ (0 : Int) ∧ (0 : Int) ≤ (16 : Int) ∧ (16 : Int) ≤ (x3.size : Int))) (f35_1 F (x3.extract 0 16) (fun x5 x6 => cond (decide ((0 : Int) ≤ (16 : Int) ∧ (16 : Int) ≤ (32 : Int) ∧ (32 : Int) ≤ (x3.size : Int))) (f35_1 F (x3.extract 16 32) (fun x7 x8 => f36_1 F 32 8 (toInts x3) (fun x9 x10 => K0 x5 x7 x9 0) ) ) none) ) none))) )) 
variable [FZ]
def sh12_1 : Sh := ⟨[.lf (.ptr 0 0)], [some ⟨none, [.full 1, .full 2, .int .i64, .bool, .int .i64]⟩, some ⟨none, [.seq .str 0]⟩, some ⟨none, [.seq (.pair (.int .i64) .str) 0]⟩]⟩
noncomputable def S12_1 (F : Nat) (o : Summ) : Summ := mkS sh12_1 (fun d K => f12_1 F d.2.1.2.2.2.1 d.2.1.2.2.2.2.1 d.2.1.2.2.2.2.2.1 d.2.2.1.2.1 d.2.2.2.1.2.1 (fun (y0 : List Int) (y1 : List Int) (y2 : Int) (y3 : Int) => K [.agg [.seq (.int .u64) 2 y0, .seq (.int .u64) 2 y1, .int .u64 y2], .lf (.int .i64 y3)] [some ⟨d.2.1.1, [.full 1, .full 2, .int .i64 d.2.1.2.2.2.1, .bool d.2.1.2.2.2.2.1, .int .i64 d.2.1.2.2.2.2.2.1]⟩, some ⟨d.2.2.1.1, [.seq .str 0 d.2.2.1.2.1]⟩, some ⟨d.2.2.2.1.1, [.seq (.pair (.int .i64) .str) 0 d.2.2.2.1.2.1]⟩])) o
noncomputable def code12 : Code := bodyOf Tryz.f12
theorem scopes12 : scopesOf code12 = [] := by kernel_rfl
theorem ranges12 : rangesOf code12 = [] := by kernel_rfl
theorem loops12 : loopsOf code12 = [] := by kernel_rfl
theorem enter12 : ∀ args w, (callFunc 12 args).run Tryz.prog w = .ok (.enter 12 args) w := enter_of (fn := Tryz.f12) (by kernel_rfl) (by kernel_rfl) (by kernel_rfl)
noncomputable def T12_1 (F : Nat) : FuncId → Option Summ := tab [(33, (S33_1 F noS)), (34, (S34_1 F noS)), (35, (S35_1 F noS)), (36, (S36_1 F noS))]
noncomputable def LT12_1 (F : Nat) : Nat → Option LoopS := ltab []
theorem E12_1g (F : Nat) (c33_1 : Int → Int → Bool → Int → List ByteArray → List (Int × ByteArray) → (ByteArray → Int → Option Res) → Option Res) (c34_1 : Int → ByteArray → (ByteArray → Int → Option Res) → Option Res) (c35_1 : ByteArray → (List Int → Int → Option Res) → Option Res) (c36_1 : Int → Int → List Int → (Int → Int → Option Res) → Option Res)   (d : sh12_1.den) (K : KF) : evBody Tryz.prog (tab [(33, (mkS sh33_1 (fun d K => c33_1 d.1.2.1 d.2.1.2.2.2.1 d.2.1.2.2.2.2.1 d.2.1.2.2.2.2.2.1 d.2.2.1.2.1 d.2.2.2.1.2.1 (fun (y0 : ByteArray) (y1 : Int) => K [.lf (.str y0), .lf (.int .i64 y1)] [some ⟨d.2.1.1, [.full 1, .full 2, .int .i64 d.2.1.2.2.2.1, .bool d.2.1.2.2.2.2.1, .int .i64 d.2.1.2.2.2.2.2.1]⟩, some ⟨d.2.2.1.1, [.seq .str 0 d.2.2.1.2.1]⟩, some ⟨d.2.2.2.1.1, [.seq (.pair (.int .i64) .str) 0 d.2.2.2.1.2.1]⟩])) noS)), (34, (mkS sh34_1 (fun d K => c34_1 d.1.1 d.1.2.1 (fun (y0 : ByteArray) (y1 : Int) => K [.lf (.str y0), .lf (.int .i64 y1)] [])) noS)), (35, (mkS sh35_1 (fun d K => c35_1 d.1.1 (fun (y0 : List Int) (y1 : Int) => K [.agg [.seq (.int .u64) 2 y0], .lf (.int .i64 y1)] [])) noS)), (36, (mkS sh36_1 (fun d K => c36_1 d.1.2.1 d.1.2.2.1 d.2.1.2.1 (fun (y0 : Int) (y1 : Int) => K [.lf (.int .u64 y0), .lf (.int .i64 y1)] [some ⟨d.2.1.1, [.seq (.int .u8) 0 d.2.1.2.1]⟩])) noS))]) (xw []) 57 3 (ltab []) [] code12 Tryz.f12.results.toList (encT sh12_1.vs d.1) (encH sh12_1.h d.2) K = (fun (a1 : Int) (a2 : Bool) (a3 : Int) (a4 : List ByteArray) (a5 : List (Int × ByteArray)) (K0 : (List Int → List Int → Int → Int → Option Res)) => c33_1 5 a1 a2 a3 a4 a5 (fun x1 x2 => cond (x2 != 0) (K0 [0, 0] [0, 0] 0 x2) (c34_1 5 x1 (fun x3 x4 => cond (x4 != 0) (K0 [0, 0] [0, 0] 0 x4) (cond ((x3.size : Int) != 40) (K0 [0, 0] [0, 0] 0 6) (cond (decide ((0 : Int) ≤ (0 : Int) ∧ (0 : Int) ≤ (16 : Int) ∧ (16 : Int) ≤ (x3.size : Int))) (c35_1 (x3.extract 0 16) (fun x5 x6 => cond (decide ((0 : Int) ≤ (16 : Int) ∧ (16 : Int) ≤ (32 : Int) ∧ (32 : Int) ≤ (x3.size : Int))) (c35_1 (x3.extract 16 32) (fun x7 x8 => c36_1 32 8 (toInts x3) (fun x9 x10 => K0 x5 x7 x9 0) ) ) none) ) none))) )) ) d.2.1.2.2.2.1 d.2.1.2.2.2.2.1 d.2.1.2.2.2.2.2.1 d.2.2.1.2.1 d.2.2.2.1.2.1 (fun (y0 : List Int) (y1 : List Int) (y2 : Int) (y3 : Int) => K [.agg [.seq (.int .u64) 2 y0, .seq (.int .u64) 2 y1, .int .u64 y2], .lf (.int .i64 y3)] [some ⟨d.2.1.1, [.full 1, .full 2, .int .i64 d.2.1.2.2.2.1, .bool d.2.1.2.2.2.2.1, .int .i64 d.2.1.2.2.2.2.2.1]⟩, some ⟨d.2.2.1.1, [.seq .str 0 d.2.2.1.2.1]⟩, some ⟨d.2.2.2.1.1, [.seq (.pair (.int .i64) .str) 0 d.2.2.2.1.2.1]⟩]) := by kernel_rfl
theorem E12_1 (F : Nat) (d : sh12_1.den) (K : KF) : evBody Tryz.prog (T12_1 F) (xw []) 57 3 (LT12_1 F) [] code12 Tryz.f12.results.toList (encT sh12_1.vs d.1) (encH sh12_1.h d.2) K = f12_1 F d.2.1.2.2.2.1 d.2.1.2.2.2.2.1 d.2.1.2.2.2.2.2.1 d.2.2.1.2.1 d.2.2.2.1.2.1 (fun (y0 : List Int) (y1 : List Int) (y2 : Int) (y3 : Int) => K [.agg [.seq (.int .u64) 2 y0, .seq (.int .u64) 2 y1, .int .u64 y2], .lf (.int .i64 y3)] [some ⟨d.2.1.1, [.full 1, .full 2, .int .i64 d.2.1.2.2.2.1, .bool d.2.1.2.2.2.2.1, .int .i64 d.2.1.2.2.2.2.2.1]⟩, some ⟨d.2.2.1.1, [.seq .str 0 d.2.2.1.2.1]⟩, some ⟨d.2.2.2.1.1, [.seq (.pair (.int .i64) .str) 0 d.2.2.2.1.2.1]⟩]) := Eq.mp (by kernel_rfl) (E12_1g F (f33_1 F) (f34_1 F) (f35_1 F) (f36_1 F)   d K)
theorem S12_1_ok (F : Nat) (o : Summ) (ho : SoundFn Tryz.prog 12 o) : SoundFn Tryz.prog 12 (S12_1 F o) :=
  soundFn_of (fn := Tryz.f12) (c := code12) rfl rfl (by kernel_rfl) (tab_cons (S33_1_ok F _ (noS_sound enter33)) (tab_cons (S34_1_ok F _ (noS_sound enter34)) (tab_cons (S35_1_ok F _ (noS_sound enter35)) (tab_cons (S36_1_ok F _ (noS_sound enter36)) tab_nil)))) (by kernel_rfl) (by kernel_rfl) ho (by rw [loops12]; exact loopsOK_nil) (by rw [scopes12]; exact scopesOK_nil) (by rw [ranges12]; exact rangesOK_nil) (E12_1 F)
end Go.Proofs.YtillbabmlfjegaaGreatDoor.X
end

section
/- strings.Repeat: the contract of the kit, at this program. -/
namespace Go.Proofs.YtillbabmlfjegaaGreatDoor.X
open Go Go.Proofs.YtillbabmlfjegaaGreatDoor.Ev Go.Proofs Go.Shelf Go.RowKit
set_option linter.unusedVariables false
def repRen : Go.Shelf.Ren := ⟨fun x => match x with | 105 => 58 | 212 => 46 | 99 => 70 | 165 => 71 | 166 => 72 | 170 => 73 | 169 => 74 | 263 => 65 | 264 => 66 | 206 => 85 | 240 => 86 | 241 => 87 | 276 => 94 | 277 => 95 | n => n, fun x => match x with | 9 => 9 | 3 => 3 | 4 => 4 | 20 => 20 | 0 => 0 | 46 => 82 | 109 => 83 | 5 => 5 | 72 => 112 | 76 => 116 | 51 => 99 | 146 => 101 | 53 => 22 | 148 => 103 | 70 => 110 | 37 => 76 | 75 => 115 | 127 => 127 | 164 => 133 | 80 => 58 | n => n, fun x => match x with  | n => n⟩
theorem repLays : Lays.n105 Tryz.prog repRen where
  mixed := by kernel_rfl
  f99 := Tryz.func70.trans (congrArg some (by kernel_rfl))
  f105 := Tryz.func58.trans (congrArg some (by kernel_rfl))
  f165 := Tryz.func71.trans (congrArg some (by kernel_rfl))
  f166 := Tryz.func72.trans (congrArg some (by kernel_rfl))
  f169 := Tryz.func74.trans (congrArg some (by kernel_rfl))
  f170 := Tryz.func73.trans (congrArg some (by kernel_rfl))
  f206 := Tryz.func85.trans (congrArg some (by kernel_rfl))
  f212 := Tryz.func46.trans (congrArg some (by kernel_rfl))
  f240 := Tryz.func86.trans (congrArg some (by kernel_rfl))
  f241 := Tryz.func87.trans (congrArg some (by kernel_rfl))
  f263 := Tryz.func65.trans (congrArg some (by kernel_rfl))
  f264 := Tryz.func66.trans (congrArg some (by kernel_rfl))
  f276 := Tryz.func94.trans (congrArg some (by kernel_rfl))
  f277 := Tryz.func95.trans (congrArg some (by kernel_rfl))
  t0 := Tryz.underlying0
  a0 := Tryz.isAgg0
  z0 := Tryz.sizeOf0
  v0 := Tryz.zeroValue0
  t3 := Tryz.underlying3
  a3 := Tryz.isAgg3
  z3 := Tryz.sizeOf3
  v3 := Tryz.zeroValue3
  t4 := Tryz.underlying4
  a4 := Tryz.isAgg4
  z4 := Tryz.sizeOf4
  v4 := Tryz.zeroValue4
  t5 := Tryz.underlying5
  a5 := Tryz.isAgg5
  z5 := Tryz.sizeOf5
  v5 := Tryz.zeroValue5
  t9 := Tryz.underlying9
  a9 := Tryz.isAgg9
  z9 := Tryz.sizeOf9
  v9 := Tryz.zeroValue9
  t20 := Tryz.underlying20
  a20 := Tryz.isAgg20
  z20 := Tryz.sizeOf20
  v20 := Tryz.zeroValue20
  t37 := Tryz.underlying76
  a37 := Tryz.isAgg76
  z37 := Tryz.sizeOf76
  v37 := Tryz.zeroValue76
  t46 := Tryz.underlying82
  a46 := Tryz.isAgg82
  z46 := Tryz.sizeOf82
  v46 := Tryz.zeroValue82
  t51 := Tryz.underlying99
  a51 := Tryz.isAgg99
  z51 := Tryz.sizeOf99
  v51 := Tryz.zeroValue99
  t53 := Tryz.underlying22
  a53 := Tryz.isAgg22
  z53 := Tryz.sizeOf22
  v53 := Tryz.zeroValue22
  t70 := Tryz.underlying110
  a70 := Tryz.isAgg110
  z70 := Tryz.sizeOf110
  v70 := Tryz.zeroValue110
  t72 := Tryz.underlying112
  a72 := Tryz.isAgg112
  z72 := Tryz.sizeOf112
  v72 := Tryz.zeroValue112
  t75 := Tryz.underlying115
  a75 := Tryz.isAgg115
  z75 := Tryz.sizeOf115
  v75 := Tryz.zeroValue115
  t76 := Tryz.underlying116
  a76 := Tryz.isAgg116
  z76 := Tryz.sizeOf116
  v76 := Tryz.zeroValue116
  t109 := Tryz.underlying83
  a109 := Tryz.isAgg83
  z109 := Tryz.sizeOf83
  v109 := Tryz.zeroValue83
  t127 := Tryz.underlying127
  a127 := Tryz.isAgg127
  z127 := Tryz.sizeOf127
  v127 := Tryz.zeroValue127
  t146 := Tryz.underlying101
  a146 := Tryz.isAgg101
  z146 := Tryz.sizeOf101
  v146 := Tryz.zeroValue101
  t148 := Tryz.underlying103
  a148 := Tryz.isAgg103
  z148 := Tryz.sizeOf103
  v148 := Tryz.zeroValue103
  t164 := Tryz.underlying133
  a164 := Tryz.isAgg133
  z164 := Tryz.sizeOf133
  v164 := Tryz.zeroValue133
theorem repExtra : Builder.Extra Tryz.prog repRen where
  sizeBuilder := by kernel_rfl
  liesBuilder := by kernel_rfl
  t5 := repLays.t5
  a5 := repLays.a5
  z5 := repLays.z5
  v5 := repLays.v5
  infoByte := by kernel_rfl
  cellsByte := by kernel_rfl
  sizeByte := by kernel_rfl
  neB5 := by decide
end Go.Proofs.YtillbabmlfjegaaGreatDoor.X
end

section
/- strings.Repeat: its contract, as a typed function. -/
namespace Go.Proofs.YtillbabmlfjegaaGreatDoor.X
open Go Go.Proofs.YtillbabmlfjegaaGreatDoor.Ev Go.Proofs
set_option linter.unusedVariables false
set_option linter.unusedSimpArgs false
set_option linter.unusedSectionVars false
variable [FZ]

/-- So many copies of a string, one behind another. -/
noncomputable def rep (s : ByteArray) (n : Nat) : ByteArray := ⟨(Lib.repeatL s.data.toList n).toArray⟩
noncomputable def f58_1 {β : Type} (F : Nat) (a1 : ByteArray) (a2 : Int) (K0 : ByteArray → Option β) : Option β :=
  cond (decide (0 ≤ a2 ∧ a2 ≤ 9223372036854775807 ∧ a1.size * a2.toNat ≤ 140737488355328)) (K0 (rep a1 a2.toNat)) none
def sh58_1 : Sh := ⟨[.lf (.str), .lf (.int .i64)], []⟩
noncomputable def S58_1 (F : Nat) (o : Summ) : Summ := mkS sh58_1 (fun d K => f58_1 F d.1.1 d.1.2.1 (fun (y0 : ByteArray) => K [.lf (.str y0)] [])) o
theorem enter58 : ∀ args w, (callFunc 58 args).run Tryz.prog w = .ok (.enter 58 args) w := enter_of (fn := Tryz.f58) (by kernel_rfl) (by kernel_rfl) (by kernel_rfl)
theorem repNum : repRen.f 105 = 58 := by kernel_rfl

theorem repB {s : ByteArray} {c : Int} (h : 0 ≤ c ∧ c ≤ 9223372036854775807 ∧ s.size * c.toNat ≤ 140737488355328) {K : KF} {r : Res} (he : K [.lf (.str (rep s c.toNat))] [] = some r) :
    Contract Tryz.prog 58 [.lf (.str s), .lf (.int .i64 c)] [] K r := by
  intro G m w cvs hw hgd hgh hi hx
  obtain ⟨v1, v2, rfl, h1, h2⟩ : ∃ v1 v2, cvs = [v1, v2] ∧ v1 = .string s ∧ v2 = .int .i64 c := by
    match cvs, hx with
    | [v1, v2], ⟨h1, h2, _⟩ => exact ⟨v1, v2, rfl, h1, h2⟩
  subst h1 h2
  have := Any.strings_Repeat repLays repExtra s c.toNat w (by omega) h.2.2
  rw [repNum, show ((c.toNat : Nat) : Int) = c by omega] at this
  refine this.mono fun e w' ⟨h1, h2⟩ => ?_
  have hext : Ext w w' := ⟨⟨h2.os, h2.tape, h2.output⟩, h2.size, h2.block⟩
  exact ⟨_, _, he, _, [], h1, rfl, by rw [List.append_nil]; exact hi.ext hext⟩

theorem S58_1_ok (F : Nat) (o : Summ) (ho : SoundFn Tryz.prog 58 o) : SoundFn Tryz.prog 58 (S58_1 F o) := by
  refine ⟨ho.enter, fun vs h K r he => ?_⟩
  unfold S58_1 mkS at he
  split at he
  rotate_left
  · exact ho.ok vs h K r he
  rename_i dv dh ha hb'
  have e1 := decT_enc _ _ _ ha
  have e2 := decH_enc _ _ _ hb'
  obtain ⟨s, c, _⟩ := dv
  have e1 : vs = [.lf (.str s), .lf (.int .i64 c)] := e1
  have e2 : h = [] := e2
  subst e1
  subst e2
  have he : f58_1 F s c (fun (y0 : ByteArray) => K [.lf (.str y0)] []) = some r := he
  unfold f58_1 at he
  obtain ⟨h1, he⟩ := dec_of he
  exact repB h1 he

end Go.Proofs.YtillbabmlfjegaaGreatDoor.X
end

section
namespace Go.Proofs.YtillbabmlfjegaaGreatDoor.X
open Go Go.Proofs.YtillbabmlfjegaaGreatDoor.Ev Go.Proofs
set_option linter.unusedVariables false
set_option linter.unusedSectionVars false
/-! rec.Make -/
noncomputable def f37_1 {β : Type} (F : Nat) (a1 : Int) (a2 : ByteArray) (K0 : ByteArray → Int → Option β) : Option β := cond (decide (a1 < 1)) (K0 ByteArray.empty 22) (cond (decide (a1 > 8)) (K0 ByteArray.empty 22) (cond (decide ((a2.size : Int) > 58)) (K0 ByteArray.empty 8) (cond (decide ((ofInts [IntKind.u8.wrap a1, IntKind.u8.wrap (a2.size : Int)]).size + a2.size ≤ 4611686018427387904)) (f58_1 F (⟨#[0]⟩ : ByteArray) (IntKind.i64.wrap (60 - (((ofInts [IntKind.u8.wrap a1, IntKind.u8.wrap (a2.size : Int)]) ++ a2).size : Int))) (fun x1 => cond (decide (((ofInts [IntKind.u8.wrap a1, IntKind.u8.wrap (a2.size : Int)]) ++ a2).size + x1.size ≤ 4611686018427387904)) (f59_1 F (((ofInts [IntKind.u8.wrap a1, IntKind.u8.wrap (a2.size : Int)]) ++ a2) ++ x1) (fun x2 => cond (decide ((((ofInts [IntKind.u8.wrap a1, IntKind.u8.wrap (a2.size : Int)]) ++ a2) ++ x1).size + x2.size ≤ 4611686018427387904)) (K0 ((((ofInts [IntKind.u8.wrap a1, IntKind.u8.wrap (a2.size : Int)]) ++ a2) ++ x1) ++ x2) 0) none) ) none) ) none)))
variable [FZ]
def sh37_1 : Sh := ⟨[.lf (.int .i64), .lf (.str)], []⟩
noncomputable def S37_1 (F : Nat) (o : Summ) : Summ := mkS sh37_1 (fun d K => f37_1 F d.1.1 d.1.2.1 (fun (y0 : ByteArray) (y1 : Int) => K [.lf (.str y0), .lf (.int .i64 y1)] [])) o
noncomputable def code37 : Code := bodyOf Tryz.f37
theorem scopes37 : scopesOf code37 = [] := by kernel_rfl
theorem ranges37 : rangesOf code37 = [] := by kernel_rfl
theorem loops37 : loopsOf code37 = [] := by kernel_rfl
theorem enter37 : ∀ args w, (callFunc 37 args).run Tryz.prog w = .ok (.enter 37 args) w := enter_of (fn := Tryz.f37) (by kernel_rfl) (by kernel_rfl) (by kernel_rfl)
noncomputable def T37_1 (F : Nat) : FuncId → Option Summ := tab [(58, (S58_1 F noS)), (59, (S59_1 F noS))]
noncomputable def LT37_1 (F : Nat) : Nat → Option LoopS := ltab []
theorem E37_1g (F : Nat) (c58_1 : ByteArray → Int → (ByteArray → Option Res) → Option Res) (c59_1 : ByteArray → (ByteArray → Option Res) → Option Res)   (d : sh37_1.den) (K : KF) : evBody Tryz.prog (tab [(58, (mkS sh58_1 (fun d K => c58_1 d.1.1 d.1.2.1 (fun (y0 : ByteArray) => K [.lf (.str y0)] [])) noS)), (59, (mkS sh59_1 (fun d K => c59_1 d.1.1 (fun (y0 : ByteArray) => K [.lf (.str y0)] [])) noS))]) (xw []) 37 0 (ltab []) [] code37 Tryz.f37.results.toList (encT sh37_1.vs d.1) (encH sh37_1.h d.2) K = (fun (a1 : Int) (a2 : ByteArray) (K0 : (ByteArray → Int → Option Res)) => cond (decide (a1 < 1)) (K0 ByteArray.empty 22) (cond (decide (a1 > 8)) (K0 ByteArray.empty 22) (cond (decide ((a2.size : Int) > 58)) (K0 ByteArray.empty 8) (cond (decide ((ofInts [IntKind.u8.wrap a1, IntKind.u8.wrap (a2.size : Int)]).size + a2.size ≤ 4611686018427387904)) (c58_1 (⟨#[0]⟩ : ByteArray) (IntKind.i64.wrap (60 - (((ofInts [IntKind.u8.wrap a1, IntKind.u8.wrap (a2.size : Int)]) ++ a2).size : Int))) (fun x1 => cond (decide (((ofInts [IntKind.u8.wrap a1, IntKind.u8.wrap (a2.size : Int)]) ++ a2).size + x1.size ≤ 4611686018427387904)) (c59_1 (((ofInts [IntKind.u8.wrap a1, IntKind.u8.wrap (a2.size : Int)]) ++ a2) ++ x1) (fun x2 => cond (decide ((((ofInts [IntKind.u8.wrap a1, IntKind.u8.wrap (a2.size : Int)]) ++ a2) ++ x1).size + x2.size ≤ 4611686018427387904)) (K0 ((((ofInts [IntKind.u8.wrap a1, IntKind.u8.wrap (a2.size : Int)]) ++ a2) ++ x1) ++ x2) 0) none) ) none) ) none)))) d.1.1 d.1.2.1 (fun (y0 : ByteArray) (y1 : Int) => K [.lf (.str y0), .lf (.int .i64 y1)] []) := by kernel_rfl
theorem E37_1 (F : Nat) (d : sh37_1.den) (K : KF) : evBody Tryz.prog (T37_1 F) (xw []) 37 0 (LT37_1 F) [] code37 Tryz.f37.results.toList (encT sh37_1.vs d.1) (encH sh37_1.h d.2) K = f37_1 F d.1.1 d.1.2.1 (fun (y0 : ByteArray) (y1 : Int) => K [.lf (.str y0), .lf (.int .i64 y1)] []) := Eq.mp (by kernel_rfl) (E37_1g F (f58_1 F) (f59_1 F)   d K)
theorem S37_1_ok (F : Nat) (o : Summ) (ho : SoundFn Tryz.prog 37 o) : SoundFn Tryz.prog 37 (S37_1 F o) :=
  soundFn_of (fn := Tryz.f37) (c := code37) rfl rfl (by kernel_rfl) (tab_cons (S58_1_ok F _ (noS_sound enter58)) (tab_cons (S59_1_ok F _ (noS_sound enter59)) tab_nil)) (by kernel_rfl) (by kernel_rfl) ho (by rw [loops37]; exact loopsOK_nil) (by rw [scopes37]; exact scopesOK_nil) (by rw [ranges37]; exact rangesOK_nil) (E37_1 F)
end Go.Proofs.YtillbabmlfjegaaGreatDoor.X
end

section
namespace Go.Proofs.YtillbabmlfjegaaGreatDoor.X
open Go Go.Proofs.YtillbabmlfjegaaGreatDoor.Ev Go.Proofs
set_option linter.unusedVariables false
set_option linter.unusedSectionVars false
/-! bits.Set).Bytes -/
noncomputable def f61_1_l3 {β : Type} (F : Nat) (v1 : List Int) (K0 : List Int → Option β) : Nat → Int → List Int → Option β
  | 0, _, _ => none
  | k + 1, v2, v3 => cond (decide (v2 < 2)) (cond (decide ((0 : Int) ≤ v2 ∧ v2 < 2)) (f60_1 F 8 (v1.getD v2.toNat 0) v3 (fun x4 => f61_1_l3 F v1 K0 k (IntKind.i64.wrap (v2 + 1)) x4) ) none) (K0 v3)
noncomputable def f61_1 {β : Type} (F : Nat) (a1 : List Int) (K0 : ByteArray → Option β) : Option β := f61_1_l3 F a1 (fun x5 => K0 (ofInts x5)) F 0 []
variable [FZ]
def sh61_1 : Sh := ⟨[.agg [.seq (.int .u64) 2]], []⟩
noncomputable def S61_1 (F : Nat) (o : Summ) : Summ := mkS sh61_1 (fun d K => f61_1 F d.1.1.1 (fun (y0 : ByteArray) => K [.lf (.str y0)] [])) o
noncomputable def code61 : Code := bodyOf Tryz.f61
noncomputable def b61_0 : Code := cB (cB (cR (cL (cR (cR (code61))))))
theorem scopes61 : scopesOf code61 = [] := by kernel_rfl
theorem ranges61 : rangesOf code61 = [] := by kernel_rfl
theorem loops61 : loopsOf code61 = [b61_0] := by kernel_rfl
theorem enter61 : ∀ args w, (callFunc 61 args).run Tryz.prog w = .ok (.enter 61 args) w := enter_of (fn := Tryz.f61) (by kernel_rfl) (by kernel_rfl) (by kernel_rfl)
noncomputable def T61_1 (F : Nat) : FuncId → Option Summ := tab [(60, (S60_1 F noS))]
def sh61_1_l3 : Sh := ⟨[.lf (.full 0), .agg [.seq (.int .u64) 2], .lf (.int .i64)], [some ⟨some false, [.seq (.int .u8) 0]⟩]⟩
noncomputable def G61_1_3 (F k : Nat) : LoopS := mkG sh61_1_l3 [3, 6, 7] (outT [(.exit 0, [3])]) (fun d K => f61_1_l3 F d.1.2.1.1 (fun (y0 : List Int) => K (.exit 0) [.tv (.lf (.full 0))] [some ⟨false, [.seq (.int .u8) 0 y0]⟩]) k d.1.2.2.1 d.2.1.2.1) []
noncomputable def LT61_1 (F : Nat) : Nat → Option LoopS := ltab [(3, G61_1_3 F F)]
theorem L61_1_l3g (F k : Nat) (c60_1 : Int → Int → List Int → (List Int → Option Res) → Option Res)  (l3 : List Int → (List Int → Option Res) → Nat → Int → List Int → Option Res) (X3 : LoopS) (d : sh61_1_l3.den) (K : KL) : (fun (v1 : List Int) (K0 : (List Int → Option Res)) (k : Nat) (v2 : Int) (v3 : List Int) => cond (decide (v2 < 2)) (cond (decide ((0 : Int) ≤ v2 ∧ v2 < 2)) (c60_1 8 (v1.getD v2.toNat 0) v3 (fun x4 => l3 v1 K0 k (IntKind.i64.wrap (v2 + 1)) x4) ) none) (K0 v3)) d.1.2.1.1 (fun (y0 : List Int) => K (.exit 0) [.tv (.lf (.full 0))] [some ⟨false, [.seq (.int .u8) 0 y0]⟩]) k d.1.2.2.1 d.2.1.2.1 = roundOf Tryz.prog (tab [(60, (mkS sh60_1 (fun d K => c60_1 d.1.2.1 d.1.2.2.1 d.2.1.2.1 (fun (y1 : List Int) => K [.lf (.full 1)] [some ⟨d.2.1.1, [.seq (.int .u8) 0 d.2.1.2.1]⟩, some ⟨false, [.seq (.int .u8) 0 y1]⟩])) noS))]) (xw []) 16 0 (ltab [(3, X3)]) (mkG sh61_1_l3 [3, 6, 7] (outT [(.exit 0, [3])]) (fun d K => l3 d.1.2.1.1 (fun (y0 : List Int) => K (.exit 0) [.tv (.lf (.full 0))] [some ⟨false, [.seq (.int .u8) 0 y0]⟩]) k d.1.2.2.1 d.2.1.2.1) []) b61_0 (encT sh61_1_l3.vs d.1) (encH sh61_1_l3.h d.2) K := by kernel_rfl
theorem L61_1_3 (F : Nat) : LoopOK Tryz.prog (T61_1 F) (xw []) 16 0 (LT61_1 F) (G61_1_3 F F) b61_0 :=
  loopOK_of (s := sh61_1_l3) (live := [3, 6, 7]) (out := (outT [(.exit 0, [3])])) (mv := []) (fun k d K => f61_1_l3 F d.1.2.1.1 (fun (y0 : List Int) => K (.exit 0) [.tv (.lf (.full 0))] [some ⟨false, [.seq (.int .u8) 0 y0]⟩]) k d.1.2.2.1 d.2.1.2.1) F (fun d K => by kernel_rfl)  (fun k d K => Eq.mp (by kernel_rfl) (L61_1_l3g F k (f60_1 F)  (f61_1_l3 F) (G61_1_3 F F) d K))
theorem E61_1g (F : Nat) (c60_1 : Int → Int → List Int → (List Int → Option Res) → Option Res) (l3 : List Int → (List Int → Option Res) → Nat → Int → List Int → Option Res)  (d : sh61_1.den) (K : KF) : evBody Tryz.prog (tab [(60, (mkS sh60_1 (fun d K => c60_1 d.1.2.1 d.1.2.2.1 d.2.1.2.1 (fun (y1 : List Int) => K [.lf (.full 1)] [some ⟨d.2.1.1, [.seq (.int .u8) 0 d.2.1.2.1]⟩, some ⟨false, [.seq (.int .u8) 0 y1]⟩])) noS))]) (xw []) 16 0 (ltab [(3, mkG sh61_1_l3 [3, 6, 7] (outT [(.exit 0, [3])]) (fun d K => l3 d.1.2.1.1 (fun (y0 : List Int) => K (.exit 0) [.tv (.lf (.full 0))] [some ⟨false, [.seq (.int .u8) 0 y0]⟩]) F d.1.2.2.1 d.2.1.2.1) [])]) [] code61 Tryz.f61.results.toList (encT sh61_1.vs d.1) (encH sh61_1.h d.2) K = (fun (a1 : List Int) (K0 : (ByteArray → Option Res)) => l3 a1 (fun x5 => K0 (ofInts x5)) F 0 []) d.1.1.1 (fun (y0 : ByteArray) => K [.lf (.str y0)] []) := by kernel_rfl
theorem E61_1 (F : Nat) (d : sh61_1.den) (K : KF) : evBody Tryz.prog (T61_1 F) (xw []) 16 0 (LT61_1 F) [] code61 Tryz.f61.results.toList (encT sh61_1.vs d.1) (encH sh61_1.h d.2) K = f61_1 F d.1.1.1 (fun (y0 : ByteArray) => K [.lf (.str y0)] []) := Eq.mp (by kernel_rfl) (E61_1g F (f60_1 F) (f61_1_l3 F)  d K)
theorem S61_1_ok (F : Nat) (o : Summ) (ho : SoundFn Tryz.prog 61 o) : SoundFn Tryz.prog 61 (S61_1 F o) :=
  soundFn_of (fn := Tryz.f61) (c := code61) rfl rfl (by kernel_rfl) (tab_cons (S60_1_ok F _ (noS_sound enter60)) tab_nil) (by kernel_rfl) (by kernel_rfl) ho (by rw [loops61]; exact (loopsOK_cons (by kernel_rfl) (L61_1_3 F) loopsOK_nil)) (by rw [scopes61]; exact scopesOK_nil) (by rw [ranges61]; exact rangesOK_nil) (E61_1 F)
end Go.Proofs.YtillbabmlfjegaaGreatDoor.X
end

section
namespace Go.Proofs.YtillbabmlfjegaaGreatDoor.X
open Go Go.Proofs.YtillbabmlfjegaaGreatDoor.Ev Go.Proofs
set_option linter.unusedVariables false
set_option linter.unusedSectionVars false
/-! dirty.Map).bytes -/
noncomputable def f38_1 {β : Type} (F : Nat) (a1 : List Int) (a2 : List Int) (a3 : Int) (K0 : ByteArray → Option β) : Option β := f61_1 F a1 (fun x1 => f61_1 F a2 (fun x2 => cond (decide (x1.size + x2.size ≤ 4611686018427387904)) (f60_1 F 8 a3 (toInts (x1 ++ x2)) (fun x3 => K0 (ofInts x3)) ) none) ) 
variable [FZ]
def sh38_1 : Sh := ⟨[.agg [.seq (.int .u64) 2, .seq (.int .u64) 2, .int .u64]], []⟩
noncomputable def S38_1 (F : Nat) (o : Summ) : Summ := mkS sh38_1 (fun d K => f38_1 F d.1.1.1 d.1.1.2.1 d.1.1.2.2.1 (fun (y0 : ByteArray) => K [.lf (.str y0)] [])) o
noncomputable def code38 : Code := bodyOf Tryz.f38
theorem scopes38 : scopesOf code38 = [] := by kernel_rfl
theorem ranges38 : rangesOf code38 = [] := by kernel_rfl
theorem loops38 : loopsOf code38 = [] := by kernel_rfl
theorem enter38 : ∀ args w, (callFunc 38 args).run Tryz.prog w = .ok (.enter 38 args) w := enter_of (fn := Tryz.f38) (by kernel_rfl) (by kernel_rfl) (by kernel_rfl)
noncomputable def T38_1 (F : Nat) : FuncId → Option Summ := tab [(60, (S60_1 F noS)), (61, (S61_1 F noS))]
noncomputable def LT38_1 (F : Nat) : Nat → Option LoopS := ltab []
theorem E38_1g (F : Nat) (c60_1 : Int → Int → List Int → (List Int → Option Res) → Option Res) (c61_1 : List Int → (ByteArray → Option Res) → Option Res)   (d : sh38_1.den) (K : KF) : evBody Tryz.prog (tab [(60, (mkS sh60_1 (fun d K => c60_1 d.1.2.1 d.1.2.2.1 d.2.1.2.1 (fun (y1 : List Int) => K [.lf (.full 1)] [some ⟨d.2.1.1, [.seq (.int .u8) 0 d.2.1.2.1]⟩, some ⟨false, [.seq (.int .u8) 0 y1]⟩])) noS)), (61, (mkS sh61_1 (fun d K => c61_1 d.1.1.1 (fun (y0 : ByteArray) => K [.lf (.str y0)] [])) noS))]) (xw []) 15 0 (ltab []) [] code38 Tryz.f38.results.toList (encT sh38_1.vs d.1) (encH sh38_1.h d.2) K = (fun (a1 : List Int) (a2 : List Int) (a3 : Int) (K0 : (ByteArray → Option Res)) => c61_1 a1 (fun x1 => c61_1 a2 (fun x2 => cond (decide (x1.size + x2.size ≤ 4611686018427387904)) (c60_1 8 a3 (toInts (x1 ++ x2)) (fun x3 => K0 (ofInts x3)) ) none) ) ) d.1.1.1 d.1.1.2.1 d.1.1.2.2.1 (fun (y0 : ByteArray) => K [.lf (.str y0)] []) := by kernel_rfl
theorem E38_1 (F : Nat) (d : sh38_1.den) (K : KF) : evBody Tryz.prog (T38_1 F) (xw []) 15 0 (LT38_1 F) [] code38 Tryz.f38.results.toList (encT sh38_1.vs d.1) (encH sh38_1.h d.2) K = f38_1 F d.1.1.1 d.1.1.2.1 d.1.1.2.2.1 (fun (y0 : ByteArray) => K [.lf (.str y0)] []) := Eq.mp (by kernel_rfl) (E38_1g F (f60_1 F) (f61_1 F)   d K)
theorem S38_1_ok (F : Nat) (o : Summ) (ho : SoundFn Tryz.prog 38 o) : SoundFn Tryz.prog 38 (S38_1 F o) :=
  soundFn_of (fn := Tryz.f38) (c := code38) rfl rfl (by kernel_rfl) (tab_cons (S60_1_ok F _ (noS_sound enter60)) (tab_cons (S61_1_ok F _ (noS_sound enter61)) tab_nil)) (by kernel_rfl) (by kernel_rfl) ho (by rw [loops38]; exact loopsOK_nil) (by rw [scopes38]; exact scopesOK_nil) (by rw [ranges38]; exact rangesOK_nil) (E38_1 F)
end Go.Proofs.YtillbabmlfjegaaGreatDoor.X
end

section
namespace Go.Proofs.YtillbabmlfjegaaGreatDoor.X
open Go Go.Proofs.YtillbabmlfjegaaGreatDoor.Ev Go.Proofs
set_option linter.unusedVariables false
set_option linter.unusedSectionVars false
/-! disk.Disk).burn -/
noncomputable def f27_1 {β : Type} (F : Nat) (a1 : Int) (a2 : Bool) (a3 : Int) (a4 : List ByteArray) (a5 : List (Int × ByteArray)) (K0 : Bool → Int → Bool → Int → Option β) : Option β := cond (a1 == 0) (K0 false (-1) true a3) (cond (a1 == (-1)) (K0 true a1 a2 (IntKind.i64.wrap (a3 + 1))) (K0 true (IntKind.i64.wrap (a1 - 1)) a2 (IntKind.i64.wrap (a3 + 1))))
variable [FZ]
def sh27_1 : Sh := ⟨[.lf (.ptr 0 0)], [some ⟨some false, [.full 1, .full 2, .int .i64, .bool, .int .i64]⟩, some ⟨none, [.seq .str 0]⟩, some ⟨none, [.seq (.pair (.int .i64) .str) 0]⟩]⟩
noncomputable def S27_1 (F : Nat) (o : Summ) : Summ := mkS sh27_1 (fun d K => f27_1 F d.2.1.2.2.2.1 d.2.1.2.2.2.2.1 d.2.1.2.2.2.2.2.1 d.2.2.1.2.1 d.2.2.2.1.2.1 (fun (y0 : Bool) (y1 : Int) (y2 : Bool) (y3 : Int) => K [.lf (.bool y0)] [some ⟨false, [.full 1, .full 2, .int .i64 y1, .bool y2, .int .i64 y3]⟩, some ⟨d.2.2.1.1, [.seq .str 0 d.2.2.1.2.1]⟩, some ⟨d.2.2.2.1.1, [.seq (.pair (.int .i64) .str) 0 d.2.2.2.1.2.1]⟩])) o
noncomputable def code27 : Code := bodyOf Tryz.f27
theorem scopes27 : scopesOf code27 = [] := by kernel_rfl
theorem ranges27 : rangesOf code27 = [] := by kernel_rfl
theorem loops27 : loopsOf code27 = [] := by kernel_rfl
theorem enter27 : ∀ args w, (callFunc 27 args).run Tryz.prog w = .ok (.enter 27 args) w := enter_of (fn := Tryz.f27) (by kernel_rfl) (by kernel_rfl) (by kernel_rfl)
noncomputable def T27_1 (F : Nat) : FuncId → Option Summ := tab []
noncomputable def LT27_1 (F : Nat) : Nat → Option LoopS := ltab []
theorem E27_1g (F : Nat)    (d : sh27_1.den) (K : KF) : evBody Tryz.prog (tab []) (xw []) 31 3 (ltab []) [] code27 Tryz.f27.results.toList (encT sh27_1.vs d.1) (encH sh27_1.h d.2) K = (fun (a1 : Int) (a2 : Bool) (a3 : Int) (a4 : List ByteArray) (a5 : List (Int × ByteArray)) (K0 : (Bool → Int → Bool → Int → Option Res)) => cond (a1 == 0) (K0 false (-1) true a3) (cond (a1 == (-1)) (K0 true a1 a2 (IntKind.i64.wrap (a3 + 1))) (K0 true (IntKind.i64.wrap (a1 - 1)) a2 (IntKind.i64.wrap (a3 + 1))))) d.2.1.2.2.2.1 d.2.1.2.2.2.2.1 d.2.1.2.2.2.2.2.1 d.2.2.1.2.1 d.2.2.2.1.2.1 (fun (y0 : Bool) (y1 : Int) (y2 : Bool) (y3 : Int) => K [.lf (.bool y0)] [some ⟨false, [.full 1, .full 2, .int .i64 y1, .bool y2, .int .i64 y3]⟩, some ⟨d.2.2.1.1, [.seq .str 0 d.2.2.1.2.1]⟩, some ⟨d.2.2.2.1.1, [.seq (.pair (.int .i64) .str) 0 d.2.2.2.1.2.1]⟩]) := by kernel_rfl
theorem E27_1 (F : Nat) (d : sh27_1.den) (K : KF) : evBody Tryz.prog (T27_1 F) (xw []) 31 3 (LT27_1 F) [] code27 Tryz.f27.results.toList (encT sh27_1.vs d.1) (encH sh27_1.h d.2) K = f27_1 F d.2.1.2.2.2.1 d.2.1.2.2.2.2.1 d.2.1.2.2.2.2.2.1 d.2.2.1.2.1 d.2.2.2.1.2.1 (fun (y0 : Bool) (y1 : Int) (y2 : Bool) (y3 : Int) => K [.lf (.bool y0)] [some ⟨false, [.full 1, .full 2, .int .i64 y1, .bool y2, .int .i64 y3]⟩, some ⟨d.2.2.1.1, [.seq .str 0 d.2.2.1.2.1]⟩, some ⟨d.2.2.2.1.1, [.seq (.pair (.int .i64) .str) 0 d.2.2.2.1.2.1]⟩]) := Eq.mp (by kernel_rfl) (E27_1g F    d K)
theorem S27_1_ok (F : Nat) (o : Summ) (ho : SoundFn Tryz.prog 27 o) : SoundFn Tryz.prog 27 (S27_1 F o) :=
  soundFn_of (fn := Tryz.f27) (c := code27) rfl rfl (by kernel_rfl) tab_nil (by kernel_rfl) (by kernel_rfl) ho (by rw [loops27]; exact loopsOK_nil) (by rw [scopes27]; exact scopesOK_nil) (by rw [ranges27]; exact rangesOK_nil) (E27_1 F)
end Go.Proofs.YtillbabmlfjegaaGreatDoor.X
end

section
namespace Go.Proofs.YtillbabmlfjegaaGreatDoor.X
open Go Go.Proofs.YtillbabmlfjegaaGreatDoor.Ev Go.Proofs
set_option linter.unusedVariables false
set_option linter.unusedSectionVars false
/-! disk.Disk).Flush -/
noncomputable def f39_1_l6 {β : Type} (F : Nat) (v5 : Int) (v7 : Int) (v8 : Bool) (v9 : Int) (v11 : List (Int × ByteArray)) (K0 : List ByteArray → Option β) : Nat → Int → List ByteArray → Option β
  | 0, _, _ => none
  | k + 1, v6, v10 => cond (decide (v6 < v5)) (cond (decide ((0 : Int) ≤ v6 ∧ v6 < ((v11.length : Nat) : Int))) (cond (decide (0 + v6.toNat < v11.length)) (cond (decide ((0 : Int) ≤ (v11.getD (0 + v6.toNat) (0, ByteArray.empty)).1 ∧ (v11.getD (0 + v6.toNat) (0, ByteArray.empty)).1 < ((v10.length : Nat) : Int))) (cond (decide (0 + (((v11.getD (0 + v6.toNat) (0, ByteArray.empty)).1).toNat) < v10.length)) (f39_1_l6 F v5 v7 v8 v9 v11 K0 k (IntKind.i64.wrap (v6 + 1)) (v10.set (0 + (((v11.getD (0 + v6.toNat) (0, ByteArray.empty)).1).toNat)) ((v11.getD (0 + v6.toNat) (0, ByteArray.empty)).2))) none) none) none) none) (K0 v10)
noncomputable def f39_1 {β : Type} (F : Nat) (a1 : Int) (a2 : Bool) (a3 : Int) (a4 : List ByteArray) (a5 : List (Int × ByteArray)) (K0 : Int → Int → Bool → Int → List ByteArray → List (Int × ByteArray) → Option β) : Option β := cond a2 (K0 5 a1 a2 a3 a4 a5) (f27_1 F a1 a2 a3 a4 a5 (fun x1 x2 x3 x4 => cond (!x1) (K0 5 x2 x3 x4 a4 a5) (f39_1_l6 F ((a5.length : Nat) : Int) x2 x3 x4 a5 (fun x12 => K0 0 x2 x3 x4 x12 []) F 0 a4)) )
variable [FZ]
def sh39_1 : Sh := ⟨[.lf (.ptr 0 0)], [some ⟨some false, [.full 1, .full 2, .int .i64, .bool, .int .i64]⟩, some ⟨some false, [.seq .str 0]⟩, some ⟨some false, [.seq (.pair (.int .i64) .str) 0]⟩]⟩
noncomputable def S39_1 (F : Nat) (o : Summ) : Summ := mkS sh39_1 (fun d K => f39_1 F d.2.1.2.2.2.1 d.2.1.2.2.2.2.1 d.2.1.2.2.2.2.2.1 d.2.2.1.2.1 d.2.2.2.1.2.1 (fun (y0 : Int) (y1 : Int) (y2 : Bool) (y3 : Int) (y4 : List ByteArray) (y5 : List (Int × ByteArray)) => K [.lf (.int .i64 y0)] [some ⟨false, [.full 1, .full 3, .int .i64 y1, .bool y2, .int .i64 y3]⟩, some ⟨false, [.seq .str 0 y4]⟩, none, some ⟨false, [.seq (.pair (.int .i64) .str) 0 y5]⟩])) o
noncomputable def code39 : Code := bodyOf Tryz.f39
noncomputable def b39_0 : Code := cB (cB (cR (cL (cR (cR (code39))))))
theorem scopes39 : scopesOf code39 = [] := by kernel_rfl
theorem ranges39 : rangesOf code39 = [] := by kernel_rfl
theorem loops39 : loopsOf code39 = [b39_0] := by kernel_rfl
theorem enter39 : ∀ args w, (callFunc 39 args).run Tryz.prog w = .ok (.enter 39 args) w := enter_of (fn := Tryz.f39) (by kernel_rfl) (by kernel_rfl) (by kernel_rfl)
noncomputable def T39_1 (F : Nat) : FuncId → Option Summ := tab [(27, (S27_1 F noS))]
def sh39_1_l6 : Sh := ⟨[.lf (.ptr 0 0), .lf (.full 2), .lf (.int .i64), .lf (.int .i64)], [some ⟨some false, [.full 1, .full 2, .int .i64, .bool, .int .i64]⟩, some ⟨some false, [.seq .str 0]⟩, some ⟨some false, [.seq (.pair (.int .i64) .str) 0]⟩]⟩
noncomputable def G39_1_6 (F k : Nat) : LoopS := mkG sh39_1_l6 [0, 21, 22, 23] (outT [(.exit 1, [0])]) (fun d K => f39_1_l6 F d.1.2.2.1 d.2.1.2.2.2.1 d.2.1.2.2.2.2.1 d.2.1.2.2.2.2.2.1 d.2.2.2.1.2.1 (fun (y3 : List ByteArray) => K (.exit 1) [.tv (.lf (.ptr 0 0))] [some ⟨false, [.full 1, .full 2, .int .i64 d.2.1.2.2.2.1, .bool d.2.1.2.2.2.2.1, .int .i64 d.2.1.2.2.2.2.2.1]⟩, some ⟨false, [.seq .str 0 y3]⟩, some ⟨false, [.seq (.pair (.int .i64) .str) 0 d.2.2.2.1.2.1]⟩]) k d.1.2.2.2.1 d.2.2.1.2.1) []
noncomputable def LT39_1 (F : Nat) : Nat → Option LoopS := ltab [(6, G39_1_6 F F)]
theorem L39_1_l6g (F k : Nat) (c27_1 : Int → Bool → Int → List ByteArray → List (Int × ByteArray) → (Bool → Int → Bool → Int → Option Res) → Option Res)  (l6 : Int → Int → Bool → Int → List (Int × ByteArray) → (List ByteArray → Option Res) → Nat → Int → List ByteArray → Option Res) (X6 : LoopS) (d : sh39_1_l6.den) (K : KL) : (fun (v5 : Int) (v7 : Int) (v8 : Bool) (v9 : Int) (v11 : List (Int × ByteArray)) (K0 : (List ByteArray → Option Res)) (k : Nat) (v6 : Int) (v10 : List ByteArray) => cond (decide (v6 < v5)) (cond (decide ((0 : Int) ≤ v6 ∧ v6 < ((v11.length : Nat) : Int))) (cond (decide (0 + v6.toNat < v11.length)) (cond (decide ((0 : Int) ≤ (v11.getD (0 + v6.toNat) (0, ByteArray.empty)).1 ∧ (v11.getD (0 + v6.toNat) (0, ByteArray.empty)).1 < ((v10.length : Nat) : Int))) (cond (decide (0 + (((v11.getD (0 + v6.toNat) (0, ByteArray.empty)).1).toNat) < v10.length)) (l6 v5 v7 v8 v9 v11 K0 k (IntKind.i64.wrap (v6 + 1)) (v10.set (0 + (((v11.getD (0 + v6.toNat) (0, ByteArray.empty)).1).toNat)) ((v11.getD (0 + v6.toNat) (0, ByteArray.empty)).2))) none) none) none) none) (K0 v10)) d.1.2.2.1 d.2.1.2.2.2.1 d.2.1.2.2.2.2.1 d.2.1.2.2.2.2.2.1 d.2.2.2.1.2.1 (fun (y3 : List ByteArray) => K (.exit 1) [.tv (.lf (.ptr 0 0))] [some ⟨false, [.full 1, .full 2, .int .i64 d.2.1.2.2.2.1, .bool d.2.1.2.2.2.2.1, .int .i64 d.2.1.2.2.2.2.2.1]⟩, some ⟨false, [.seq .str 0 y3]⟩, some ⟨false, [.seq (.pair (.int .i64) .str) 0 d.2.2.2.1.2.1]⟩]) k d.1.2.2.2.1 d.2.2.1.2.1 = roundOf Tryz.prog (tab [(27, (mkS sh27_1 (fun d K => c27_1 d.2.1.2.2.2.1 d.2.1.2.2.2.2.1 d.2.1.2.2.2.2.2.1 d.2.2.1.2.1 d.2.2.2.1.2.1 (fun (y0 : Bool) (y1 : Int) (y2 : Bool) (y3 : Int) => K [.lf (.bool y0)] [some ⟨false, [.full 1, .full 2, .int .i64 y1, .bool y2, .int .i64 y3]⟩, some ⟨d.2.2.1.1, [.seq .str 0 d.2.2.1.2.1]⟩, some ⟨d.2.2.2.1.1, [.seq (.pair (.int .i64) .str) 0 d.2.2.2.1.2.1]⟩])) noS))]) (xw []) 40 3 (ltab [(6, X6)]) (mkG sh39_1_l6 [0, 21, 22, 23] (outT [(.exit 1, [0])]) (fun d K => l6 d.1.2.2.1 d.2.1.2.2.2.1 d.2.1.2.2.2.2.1 d.2.1.2.2.2.2.2.1 d.2.2.2.1.2.1 (fun (y3 : List ByteArray) => K (.exit 1) [.tv (.lf (.ptr 0 0))] [some ⟨false, [.full 1, .full 2, .int .i64 d.2.1.2.2.2.1, .bool d.2.1.2.2.2.2.1, .int .i64 d.2.1.2.2.2.2.2.1]⟩, some ⟨false, [.seq .str 0 y3]⟩, some ⟨false, [.seq (.pair (.int .i64) .str) 0 d.2.2.2.1.2.1]⟩]) k d.1.2.2.2.1 d.2.2.1.2.1) []) b39_0 (encT sh39_1_l6.vs d.1) (encH sh39_1_l6.h d.2) K := by kernel_rfl
theorem L39_1_6 (F : Nat) : LoopOK Tryz.prog (T39_1 F) (xw []) 40 3 (LT39_1 F) (G39_1_6 F F) b39_0 :=
  loopOK_of (s := sh39_1_l6) (live := [0, 21, 22, 23]) (out := (outT [(.exit 1, [0])])) (mv := []) (fun k d K => f39_1_l6 F d.1.2.2.1 d.2.1.2.2.2.1 d.2.1.2.2.2.2.1 d.2.1.2.2.2.2.2.1 d.2.2.2.1.2.1 (fun (y3 : List ByteArray) => K (.exit 1) [.tv (.lf (.ptr 0 0))] [some ⟨false, [.full 1, .full 2, .int .i64 d.2.1.2.2.2.1, .bool d.2.1.2.2.2.2.1, .int .i64 d.2.1.2.2.2.2.2.1]⟩, some ⟨false, [.seq .str 0 y3]⟩, some ⟨false, [.seq (.pair (.int .i64) .str) 0 d.2.2.2.1.2.1]⟩]) k d.1.2.2.2.1 d.2.2.1.2.1) F (fun d K => by kernel_rfl)  (fun k d K => Eq.mp (by kernel_rfl) (L39_1_l6g F k (f27_1 F)  (f39_1_l6 F) (G39_1_6 F F) d K))
theorem E39_1g (F : Nat) (c27_1 : Int → Bool → Int → List ByteArray → List (Int × ByteArray) → (Bool → Int → Bool → Int → Option Res) → Option Res) (l6 : Int → Int → Bool → Int → List (Int × ByteArray) → (List ByteArray → Option Res) → Nat → Int → List ByteArray → Option Res)  (d : sh39_1.den) (K : KF) : evBody Tryz.prog (tab [(27, (mkS sh27_1 (fun d K => c27_1 d.2.1.2.2.2.1 d.2.1.2.2.2.2.1 d.2.1.2.2.2.2.2.1 d.2.2.1.2.1 d.2.2.2.1.2.1 (fun (y0 : Bool) (y1 : Int) (y2 : Bool) (y3 : Int) => K [.lf (.bool y0)] [some ⟨false, [.full 1, .full 2, .int .i64 y1, .bool y2, .int .i64 y3]⟩, some ⟨d.2.2.1.1, [.seq .str 0 d.2.2.1.2.1]⟩, some ⟨d.2.2.2.1.1, [.seq (.pair (.int .i64) .str) 0 d.2.2.2.1.2.1]⟩])) noS))]) (xw []) 40 3 (ltab [(6, mkG sh39_1_l6 [0, 21, 22, 23] (outT [(.exit 1, [0])]) (fun d K => l6 d.1.2.2.1 d.2.1.2.2.2.1 d.2.1.2.2.2.2.1 d.2.1.2.2.2.2.2.1 d.2.2.2.1.2.1 (fun (y3 : List ByteArray) => K (.exit 1) [.tv (.lf (.ptr 0 0))] [some ⟨false, [.full 1, .full 2, .int .i64 d.2.1.2.2.2.1, .bool d.2.1.2.2.2.2.1, .int .i64 d.2.1.2.2.2.2.2.1]⟩, some ⟨false, [.seq .str 0 y3]⟩, some ⟨false, [.seq (.pair (.int .i64) .str) 0 d.2.2.2.1.2.1]⟩]) F d.1.2.2.2.1 d.2.2.1.2.1) [])]) [2] code39 Tryz.f39.results.toList (encT sh39_1.vs d.1) (encH sh39_1.h d.2) K = (fun (a1 : Int) (a2 : Bool) (a3 : Int) (a4 : List ByteArray) (a5 : List (Int × ByteArray)) (K0 : (Int → Int → Bool → Int → List ByteArray → List (Int × ByteArray) → Option Res)) => cond a2 (K0 5 a1 a2 a3 a4 a5) (c27_1 a1 a2 a3 a4 a5 (fun x1 x2 x3 x4 => cond (!x1) (K0 5 x2 x3 x4 a4 a5) (l6 ((a5.length : Nat) : Int) x2 x3 x4 a5 (fun x12 => K0 0 x2 x3 x4 x12 []) F 0 a4)) )) d.2.1.2.2.2.1 d.2.1.2.2.2.2.1 d.2.1.2.2.2.2.2.1 d.2.2.1.2.1 d.2.2.2.1.2.1 (fun (y0 : Int) (y1 : Int) (y2 : Bool) (y3 : Int) (y4 : List ByteArray) (y5 : List (Int × ByteArray)) => K [.lf (.int .i64 y0)] [some ⟨false, [.full 1, .full 3, .int .i64 y1, .bool y2, .int .i64 y3]⟩, some ⟨false, [.seq .str 0 y4]⟩, none, some ⟨false, [.seq (.pair (.int .i64) .str) 0 y5]⟩]) := by kernel_rfl
theorem E39_1 (F : Nat) (d : sh39_1.den) (K : KF) : evBody Tryz.prog (T39_1 F) (xw []) 40 3 (LT39_1 F) [2] code39 Tryz.f39.results.toList (encT sh39_1.vs d.1) (encH sh39_1.h d.2) K = f39_1 F d.2.1.2.2.2.1 d.2.1.2.2.2.2.1 d.2.1.2.2.2.2.2.1 d.2.2.1.2.1 d.2.2.2.1.2.1 (fun (y0 : Int) (y1 : Int) (y2 : Bool) (y3 : Int) (y4 : List ByteArray) (y5 : List (Int × ByteArray)) => K [.lf (.int .i64 y0)] [some ⟨false, [.full 1, .full 3, .int .i64 y1, .bool y2, .int .i64 y3]⟩, some ⟨false, [.seq .str 0 y4]⟩, none, some ⟨false, [.seq (.pair (.int .i64) .str) 0 y5]⟩]) := Eq.mp (by kernel_rfl) (E39_1g F (f27_1 F) (f39_1_l6 F)  d K)
theorem S39_1_ok (F : Nat) (o : Summ) (ho : SoundFn Tryz.prog 39 o) : SoundFn Tryz.prog 39 (S39_1 F o) :=
  soundFn_of (fn := Tryz.f39) (c := code39) rfl rfl (by kernel_rfl) (tab_cons (S27_1_ok F _ (noS_sound enter27)) tab_nil) (by kernel_rfl) (by kernel_rfl) ho (by rw [loops39]; exact (loopsOK_cons (by kernel_rfl) (L39_1_6 F) loopsOK_nil)) (by rw [scopes39]; exact scopesOK_nil) (by rw [ranges39]; exact rangesOK_nil) (E39_1 F)
end Go.Proofs.YtillbabmlfjegaaGreatDoor.X
end

section
namespace Go.Proofs.YtillbabmlfjegaaGreatDoor.X
open Go Go.Proofs.YtillbabmlfjegaaGreatDoor.Ev Go.Proofs
set_option linter.unusedVariables false
set_option linter.unusedSectionVars false
/-! disk.Disk).Write -/
noncomputable def f7_1 {β : Type} (F : Nat) (a1 : Int) (a2 : ByteArray) (a3 : Int) (a4 : Bool) (a5 : Int) (a6 : List ByteArray) (a7 : List (Int × ByteArray)) (K0 : Int → Int → Bool → Int → List (Int × ByteArray) → Option β) : Option β := cond a4 (K0 5 a3 a4 a5 a7) (f25_1 F a1 a3 a4 a5 a6 a7 (fun x1 => cond (!x1) (K0 3 a3 a4 a5 a7) (f26_1 F a2 (fun x2 => cond (!x2) (K0 4 a3 a4 a5 a7) (f27_1 F a3 a4 a5 a6 a7 (fun x3 x4 x5 x6 => cond (!x3) (K0 5 x4 x5 x6 a7) (cond (decide ((a7.length + 1) * 24 ≤ 70368744177664)) (K0 0 x4 x5 x6 (a7 ++ [(a1, a2)])) none)) )) )) )
variable [FZ]
def sh7_1 : Sh := ⟨[.lf (.ptr 0 0), .lf (.int .i64), .lf (.str)], [some ⟨some false, [.full 1, .full 2, .int .i64, .bool, .int .i64]⟩, some ⟨none, [.seq .str 0]⟩, some ⟨some false, [.seq (.pair (.int .i64) .str) 0]⟩]⟩
noncomputable def S7_1 (F : Nat) (o : Summ) : Summ := mkS sh7_1 (fun d K => f7_1 F d.1.2.1 d.1.2.2.1 d.2.1.2.2.2.1 d.2.1.2.2.2.2.1 d.2.1.2.2.2.2.2.1 d.2.2.1.2.1 d.2.2.2.1.2.1 (fun (y0 : Int) (y1 : Int) (y2 : Bool) (y3 : Int) (y5 : List (Int × ByteArray)) => K [.lf (.int .i64 y0)] [some ⟨false, [.full 1, .full 3, .int .i64 y1, .bool y2, .int .i64 y3]⟩, some ⟨d.2.2.1.1, [.seq .str 0 d.2.2.1.2.1]⟩, none, some ⟨false, [.seq (.pair (.int .i64) .str) 0 y5]⟩])) o
noncomputable def code7 : Code := bodyOf Tryz.f7
theorem scopes7 : scopesOf code7 = [] := by kernel_rfl
theorem ranges7 : rangesOf code7 = [] := by kernel_rfl
theorem loops7 : loopsOf code7 = [] := by kernel_rfl
theorem enter7 : ∀ args w, (callFunc 7 args).run Tryz.prog w = .ok (.enter 7 args) w := enter_of (fn := Tryz.f7) (by kernel_rfl) (by kernel_rfl) (by kernel_rfl)
noncomputable def T7_1 (F : Nat) : FuncId → Option Summ := tab [(25, (S25_1 F noS)), (26, (S26_1 F noS)), (27, (S27_1 F noS))]
noncomputable def LT7_1 (F : Nat) : Nat → Option LoopS := ltab []
theorem E7_1g (F : Nat) (c25_1 : Int → Int → Bool → Int → List ByteArray → List (Int × ByteArray) → (Bool → Option Res) → Option Res) (c26_1 : ByteArray → (Bool → Option Res) → Option Res) (c27_1 : Int → Bool → Int → List ByteArray → List (Int × ByteArray) → (Bool → Int → Bool → Int → Option Res) → Option Res)   (d : sh7_1.den) (K : KF) : evBody Tryz.prog (tab [(25, (mkS sh25_1 (fun d K => c25_1 d.1.2.1 d.2.1.2.2.2.1 d.2.1.2.2.2.2.1 d.2.1.2.2.2.2.2.1 d.2.2.1.2.1 d.2.2.2.1.2.1 (fun (y0 : Bool) => K [.lf (.bool y0)] [some ⟨d.2.1.1, [.full 1, .full 2, .int .i64 d.2.1.2.2.2.1, .bool d.2.1.2.2.2.2.1, .int .i64 d.2.1.2.2.2.2.2.1]⟩, some ⟨d.2.2.1.1, [.seq .str 0 d.2.2.1.2.1]⟩, some ⟨d.2.2.2.1.1, [.seq (.pair (.int .i64) .str) 0 d.2.2.2.1.2.1]⟩])) noS)), (26, (mkS sh26_1 (fun d K => c26_1 d.1.1 (fun (y0 : Bool) => K [.lf (.bool y0)] [])) noS)), (27, (mkS sh27_1 (fun d K => c27_1 d.2.1.2.2.2.1 d.2.1.2.2.2.2.1 d.2.1.2.2.2.2.2.1 d.2.2.1.2.1 d.2.2.2.1.2.1 (fun (y0 : Bool) (y1 : Int) (y2 : Bool) (y3 : Int) => K [.lf (.bool y0)] [some ⟨false, [.full 1, .full 2, .int .i64 y1, .bool y2, .int .i64 y3]⟩, some ⟨d.2.2.1.1, [.seq .str 0 d.2.2.1.2.1]⟩, some ⟨d.2.2.2.1.1, [.seq (.pair (.int .i64) .str) 0 d.2.2.2.1.2.1]⟩])) noS))]) (xw []) 40 3 (ltab []) [2] code7 Tryz.f7.results.toList (encT sh7_1.vs d.1) (encH sh7_1.h d.2) K = (fun (a1 : Int) (a2 : ByteArray) (a3 : Int) (a4 : Bool) (a5 : Int) (a6 : List ByteArray) (a7 : List (Int × ByteArray)) (K0 : (Int → Int → Bool → Int → List (Int × ByteArray) → Option Res)) => cond a4 (K0 5 a3 a4 a5 a7) (c25_1 a1 a3 a4 a5 a6 a7 (fun x1 => cond (!x1) (K0 3 a3 a4 a5 a7) (c26_1 a2 (fun x2 => cond (!x2) (K0 4 a3 a4 a5 a7) (c27_1 a3 a4 a5 a6 a7 (fun x3 x4 x5 x6 => cond (!x3) (K0 5 x4 x5 x6 a7) (cond (decide ((a7.length + 1) * 24 ≤ 70368744177664)) (K0 0 x4 x5 x6 (a7 ++ [(a1, a2)])) none)) )) )) )) d.1.2.1 d.1.2.2.1 d.2.1.2.2.2.1 d.2.1.2.2.2.2.1 d.2.1.2.2.2.2.2.1 d.2.2.1.2.1 d.2.2.2.1.2.1 (fun (y0 : Int) (y1 : Int) (y2 : Bool) (y3 : Int) (y5 : List (Int × ByteArray)) => K [.lf (.int .i64 y0)] [some ⟨false, [.full 1, .full 3, .int .i64 y1, .bool y2, .int .i64 y3]⟩, some ⟨d.2.2.1.1, [.seq .str 0 d.2.2.1.2.1]⟩, none, some ⟨false, [.seq (.pair (.int .i64) .str) 0 y5]⟩]) := by kernel_rfl
theorem E7_1 (F : Nat) (d : sh7_1.den) (K : KF) : evBody Tryz.prog (T7_1 F) (xw []) 40 3 (LT7_1 F) [2] code7 Tryz.f7.results.toList (encT sh7_1.vs d.1) (encH sh7_1.h d.2) K = f7_1 F d.1.2.1 d.1.2.2.1 d.2.1.2.2.2.1 d.2.1.2.2.2.2.1 d.2.1.2.2.2.2.2.1 d.2.2.1.2.1 d.2.2.2.1.2.1 (fun (y0 : Int) (y1 : Int) (y2 : Bool) (y3 : Int) (y5 : List (Int × ByteArray)) => K [.lf (.int .i64 y0)] [some ⟨false, [.full 1, .full 3, .int .i64 y1, .bool y2, .int .i64 y3]⟩, some ⟨d.2.2.1.1, [.seq .str 0 d.2.2.1.2.1]⟩, none, some ⟨false, [.seq (.pair (.int .i64) .str) 0 y5]⟩]) := Eq.mp (by kernel_rfl) (E7_1g F (f25_1 F) (f26_1 F) (f27_1 F)   d K)
theorem S7_1_ok (F : Nat) (o : Summ) (ho : SoundFn Tryz.prog 7 o) : SoundFn Tryz.prog 7 (S7_1 F o) :=
  soundFn_of (fn := Tryz.f7) (c := code7) rfl rfl (by kernel_rfl) (tab_cons (S25_1_ok F _ (noS_sound enter25)) (tab_cons (S26_1_ok F _ (noS_sound enter26)) (tab_cons (S27_1_ok F _ (noS_sound enter27)) tab_nil))) (by kernel_rfl) (by kernel_rfl) ho (by rw [loops7]; exact loopsOK_nil) (by rw [scopes7]; exact scopesOK_nil) (by rw [ranges7]; exact rangesOK_nil) (E7_1 F)
end Go.Proofs.YtillbabmlfjegaaGreatDoor.X
end
