/- The evaluator is sound, first part: what typed values say of cells. -/
import Derived.Test.YtlokielmpdjedaaEvCore
namespace Go.Proofs.Ytlokielmpdjedaa.Ev
open Go
set_option linter.unusedVariables false

structure Gh where
  addr : Option (Nat × Nat)
  sz : Nat
  ln : Nat → Nat
  ew : Nat → Nat

abbrev GM := List Gh

def EK.cv : (k : EK) → k.den → List Value
  | .int k, n => [.int k n]
  | .bool, b => [.bool b]
  | .str, s => [.string s]
  | .pair a b, p => a.cv p.1 ++ b.cv p.2

def cvs (k : EK) : List k.den → List Value
  | [] => []
  | x :: r => k.cv x ++ cvs k r

def at_ (b : Nat × Nat) (n : Nat) : Addr := ⟨b.1, b.2 + n, none⟩

def leafV : Value → Prop
  | .agg _ => False
  | .tuple _ => False
  | _ => True

def SlRel (m : GM) (id off lo len : Nat) (cap : Option Nat) (v : Value) : Prop :=
  ∃ g a c, m[id]? = some g ∧ v = .slice a len c ∧ len ≤ c ∧ (∀ c', cap = some c' → c = c') ∧ lo + cap.getD len ≤ g.ln off ∧
    (c = 0 ∨ ∃ b, g.addr = some b ∧ a = some (at_ b (off + lo * g.ew off)) ∧ b.2 + off + (lo + c) * g.ew off ≤ g.sz)

def LRel (m : GM) : LV → Value → Prop
  | .top, v => leafV v
  | .int k n, v => v = .int k n
  | .bool b, v => v = .bool b
  | .str s, v => v = .string s
  | .nilp, v => v = .pointer none
  | .nils _, v => v = .slice none 0 0
  | .ptr id off, v => ∃ g b, m[id]? = some g ∧ g.addr = some b ∧ v = .pointer (some (at_ b off))
  | .pix id off i o2, v => ∃ g b, m[id]? = some g ∧ g.addr = some b ∧ v = .pointer (some (at_ b (off + i * g.ew off + o2)))
  | .full id, v => ∃ g, m[id]? = some g ∧ SlRel m id 0 0 (g.ln 0) none v
  | .slice id off lo len cap, v => SlRel m id off lo len cap v
  | .seq _ _ _, _ => False
  | .fn f, v => v = .func (.func f) #[] #[]

def ECells (m : GM) : LV → List Value → Prop
  | .seq k n l, cs => (n = 0 ∨ l.length = n) ∧ cs = cvs k l
  | x, cs => ∃ v, cs = [v] ∧ LRel m x v

def OCells (m : GM) : List LV → List Value → Prop
  | [], cs => cs = []
  | x :: r, cs => ∃ a b, cs = a ++ b ∧ ECells m x a ∧ OCells m r b

theorem LRel.leaf {m : GM} {x : LV} {v : Value} (h : LRel m x v) : leafV v := by
  cases x <;> simp only [LRel, SlRel] at h
  case top => exact h
  case ptr => obtain ⟨_, _, _, _, rfl⟩ := h; trivial
  case pix => obtain ⟨_, _, _, _, rfl⟩ := h; trivial
  case full => obtain ⟨_, _, _, _, _, _, rfl, _⟩ := h; trivial
  case slice => obtain ⟨_, _, _, _, rfl, _⟩ := h; trivial
  all_goals (subst h; trivial)

theorem leafV.cells {v : Value} (h : leafV v) : v.cells = #[v] := by
  cases v <;> first | rfl | exact h.elim

theorem cv_length (k : EK) (x : k.den) : (k.cv x).length = k.w := by
  induction k with
  | pair a b iha ihb => simp [EK.cv, EK.w, iha, ihb]
  | _ => rfl

theorem EK.w_pos (k : EK) : 0 < k.w := by
  induction k with
  | pair a b iha ihb => simp only [EK.w]; omega
  | _ => simp [EK.w]

theorem cvs_length (k : EK) (l : List k.den) : (cvs k l).length = l.length * k.w := by
  induction l with
  | nil => simp [cvs]
  | cons x r ih => simp only [cvs, List.length_append, cv_length, ih, List.length_cons, Nat.add_mul]; omega

theorem cvs_append (k : EK) (l r : List k.den) : cvs k (l ++ r) = cvs k l ++ cvs k r := by
  induction l with
  | nil => rfl
  | cons x l ih => simp [cvs, ih]

theorem cvs_drop (k : EK) (l : List k.den) : ∀ n, cvs k (l.drop n) = (cvs k l).drop (n * k.w) := by
  induction l with
  | nil => intro n; simp [cvs]
  | cons x r ih =>
    intro n
    cases n with
    | zero => simp
    | succ n =>
      simp only [List.drop_succ_cons, ih, cvs]
      have hk := cv_length k x
      rw [List.drop_append, List.drop_eq_nil_of_le (as := k.cv x) (by rw [hk, Nat.add_mul]; omega), List.nil_append, hk]
      congr 1
      rw [Nat.add_mul]; omega

theorem cvs_take (k : EK) (l : List k.den) : ∀ n, cvs k (l.take n) = (cvs k l).take (n * k.w) := by
  induction l with
  | nil => intro n; simp [cvs]
  | cons x r ih =>
    intro n
    cases n with
    | zero => simp [cvs]
    | succ n =>
      simp only [List.take_succ_cons, ih, cvs]
      have hk := cv_length k x
      rw [List.take_append, List.take_of_length_le (l := k.cv x) (by rw [hk, Nat.add_mul]; omega), hk]
      congr 2
      rw [Nat.add_mul]; omega

theorem cvs_getD (k : EK) (l : List k.den) (i : Nat) (hi : i < l.length) (j : Nat) (hj : j < k.w) :
    (cvs k l)[i * k.w + j]? = (k.cv (l.getD i k.zero))[j]? := by
  induction l generalizing i with
  | nil => simp at hi
  | cons x r ih =>
    cases i with
    | zero =>
      simp only [cvs, Nat.zero_mul, Nat.zero_add, List.getD_cons_zero]
      rw [List.getElem?_append_left (by rw [cv_length]; exact hj)]
    | succ i =>
      simp only [cvs, List.getD_cons_succ]
      rw [List.getElem?_append_right (by rw [cv_length, Nat.add_mul]; omega)]
      rw [← ih i (by simpa using hi)]
      congr 1
      rw [cv_length, Nat.add_mul]; omega

theorem ocells_append {m : GM} {l r : List LV} {cs : List Value} :
    OCells m (l ++ r) cs ↔ ∃ a b, cs = a ++ b ∧ OCells m l a ∧ OCells m r b := by
  induction l generalizing cs with
  | nil => exact ⟨fun h => ⟨[], cs, rfl, rfl, h⟩, by rintro ⟨a, b, rfl, h, hr⟩; simp only [OCells] at h; subst h; exact hr⟩
  | cons x l ih =>
    simp only [List.cons_append, OCells, ih]
    constructor
    · rintro ⟨a, b, rfl, hx, c, d, rfl, hl, hr⟩
      exact ⟨a ++ c, d, by simp, ⟨a, c, rfl, hx, hl⟩, hr⟩
    · rintro ⟨_, d, rfl, ⟨a, c, rfl, hx, hl⟩, hr⟩
      exact ⟨a, c ++ d, by simp, hx, c, d, rfl, hl, hr⟩

theorem ecells_w {m : GM} {x : LV} {cs : List Value} (hw : 0 < x.w) (h : ECells m x cs) : cs.length = x.w := by
  cases x
  case seq k n l =>
    obtain ⟨h1, rfl⟩ := h
    rw [cvs_length]
    simp only [LV.w] at hw ⊢
    rcases h1 with h1 | h1
    · subst h1; simp at hw
    · rw [h1]
  all_goals (obtain ⟨v, rfl, _⟩ := h; rfl)

theorem dropW_cells {m : GM} {l r : List LV} {n : Nat} {cs : List Value} (h : dropW l n = some r) (ho : OCells m l cs) :
    n ≤ cs.length ∧ OCells m r (cs.drop n) := by
  induction l generalizing n cs with
  | nil =>
    cases n with
    | zero => simp only [dropW, Option.some.injEq] at h; subst h; simpa using ho
    | succ n => simp [dropW] at h
  | cons x l ih =>
    cases n with
    | zero => simp only [dropW, Option.some.injEq] at h; subst h; simpa using ho
    | succ n =>
      simp only [dropW] at h
      split at h
      · rename_i hw
        obtain ⟨a, b, rfl, hx, hl⟩ := ho
        have hla := ecells_w hw.1 hx
        obtain ⟨h1, h2⟩ := ih h hl
        refine ⟨by simp; omega, ?_⟩
        rw [List.drop_append, List.drop_eq_nil_of_le (by omega), List.nil_append, hla]
        exact h2
      · cases h

theorem takeW_cells {m : GM} {l r : List LV} {n : Nat} {cs : List Value} (h : takeW l n = some r) (ho : OCells m l cs) :
    n ≤ cs.length ∧ OCells m r (cs.take n) := by
  induction l generalizing n cs r with
  | nil =>
    cases n with
    | zero => simp only [takeW, Option.some.injEq] at h; subst h; simp [OCells]
    | succ n => simp [takeW] at h
  | cons x l ih =>
    cases n with
    | zero => simp only [takeW, Option.some.injEq] at h; subst h; simp [OCells]
    | succ n =>
      simp only [takeW] at h
      split at h
      · rename_i hw
        obtain ⟨a, b, rfl, hx, hl⟩ := ho
        have hla := ecells_w hw.1 hx
        cases ht : takeW l (n + 1 - x.w) with
        | none => rw [ht] at h; cases h
        | some q =>
          rw [ht] at h
          simp only [Option.some.injEq] at h
          subst h
          obtain ⟨h1, h2⟩ := ih ht hl
          refine ⟨by simp; omega, a, b.take (n + 1 - x.w), ?_, hx, h2⟩
          rw [List.take_append, List.take_of_length_le (by omega), hla]
      · cases h

theorem wOf_cells {m : GM} {l : List LV} {n : Nat} {cs : List Value} (h : wOf l = some n) (ho : OCells m l cs) : cs.length = n := by
  induction l generalizing n cs with
  | nil => simp only [wOf, Option.some.injEq] at h; subst h; simp only [OCells] at ho; subst ho; rfl
  | cons x l ih =>
    simp only [wOf] at h
    split at h
    · rename_i hw
      cases ht : wOf l with
      | none => rw [ht] at h; cases h
      | some q =>
        rw [ht] at h
        simp only [Option.some.injEq] at h
        obtain ⟨a, b, rfl, hx, hl⟩ := ho
        have := ecells_w hw hx
        have := ih ht hl
        simp; omega
    · cases h

theorem putW_cells {m : GM} {l new l' : List LV} {off : Nat} {cs ns : List Value} (h : putW l off new = some l') (ho : OCells m l cs) (hn : OCells m new ns) :
    off + ns.length ≤ cs.length ∧ OCells m l' (cs.take off ++ (ns ++ cs.drop (off + ns.length))) := by
  simp only [putW] at h
  split at h
  · rename_i n hw
    have hlen := wOf_cells hw hn
    split at h
    · rename_i a b ha hb
      split at h
      · rename_i c hc
        simp only [Option.some.injEq] at h
        subst h
        obtain ⟨h1, h2⟩ := takeW_cells ha ho
        obtain ⟨h3, h4⟩ := dropW_cells hb ho
        obtain ⟨h5, h6⟩ := dropW_cells hc h4
        simp only [List.length_drop] at h5
        refine ⟨by omega, ocells_append.2 ⟨_, _, rfl, h2, ocells_append.2 ⟨_, _, rfl, hn, ?_⟩⟩⟩
        rw [List.drop_drop, ← hlen] at h6
        exact h6
      · cases h
    · cases h
  · cases h

theorem toLV_cells (m : GM) (k : EK) (x : k.den) : OCells m (k.toLV x) (k.cv x) := by
  induction k with
  | pair a b iha ihb => exact ocells_append.2 ⟨_, _, rfl, iha _, ihb _⟩
  | int k => exact ⟨_, _, rfl, ⟨_, rfl, rfl⟩, rfl⟩
  | bool => exact ⟨_, _, rfl, ⟨_, rfl, rfl⟩, rfl⟩
  | str => exact ⟨_, _, rfl, ⟨_, rfl, rfl⟩, rfl⟩

theorem ofLV_cells {m : GM} (k : EK) {l r : List LV} {x : k.den} {cs : List Value} (h : k.ofLV l = some (x, r)) (ho : OCells m l cs) :
    ∃ c2, cs = k.cv x ++ c2 ∧ OCells m r c2 := by
  induction k generalizing l r cs with
  | pair a b iha ihb =>
    simp only [EK.ofLV] at h
    split at h
    · rename_i x1 r1 h1
      split at h
      · rename_i y1 r2 h2
        simp only [Option.some.injEq, Prod.mk.injEq] at h
        obtain ⟨rfl, rfl⟩ := h
        obtain ⟨c1, rfl, h3⟩ := iha h1 ho
        obtain ⟨c2, rfl, h4⟩ := ihb h2 h3
        exact ⟨c2, by simp [EK.cv], h4⟩
      · cases h
    · cases h
  | int k =>
    cases l with
    | nil => simp [EK.ofLV] at h
    | cons y r' =>
      cases y <;> simp [EK.ofLV] at h
      rename_i k' n
      obtain ⟨rfl, rfl, rfl⟩ := h
      obtain ⟨a, b, rfl, ⟨v, rfl, hv⟩, hr⟩ := ho
      simp only [LRel] at hv
      subst hv
      exact ⟨b, rfl, hr⟩
  | bool =>
    cases l with
    | nil => simp [EK.ofLV] at h
    | cons y r' =>
      cases y <;> simp [EK.ofLV] at h
      obtain ⟨rfl, rfl⟩ := h
      obtain ⟨a, b, rfl, ⟨v, rfl, hv⟩, hr⟩ := ho
      simp only [LRel] at hv
      subst hv
      exact ⟨b, rfl, hr⟩
  | str =>
    cases l with
    | nil => simp [EK.ofLV] at h
    | cons y r' =>
      cases y <;> simp [EK.ofLV] at h
      obtain ⟨rfl, rfl⟩ := h
      obtain ⟨a, b, rfl, ⟨v, rfl, hv⟩, hr⟩ := ho
      simp only [LRel] at hv
      subst hv
      exact ⟨b, rfl, hr⟩

theorem of1_cells {m : GM} (k : EK) {l : List LV} {x : k.den} {cs : List Value} (h : k.of1 l = some x) (ho : OCells m l cs) : cs = k.cv x := by
  simp only [EK.of1] at h
  split at h
  · rename_i y h1
    simp only [Option.some.injEq] at h
    subst h
    obtain ⟨c2, rfl, h2⟩ := ofLV_cells k h1 ho
    simp only [OCells] at h2
    subst h2
    simp
  · cases h

theorem cv_leaf (k : EK) : ∀ (x : k.den), ∀ c ∈ k.cv x, leafV c := by
  induction k with
  | pair a b iha ihb =>
    intro x c hc
    rcases List.mem_append.1 hc with h | h
    · exact iha _ _ h
    · exact ihb _ _ h
  | int k => intro x c hc; simp only [EK.cv, List.mem_singleton] at hc; subst hc; trivial
  | bool => intro x c hc; simp only [EK.cv, List.mem_singleton] at hc; subst hc; trivial
  | str => intro x c hc; simp only [EK.cv, List.mem_singleton] at hc; subst hc; trivial

theorem cvs_leaf (k : EK) (l : List k.den) : ∀ c ∈ cvs k l, leafV c := by
  induction l with
  | nil => intro c hc; cases hc
  | cons x r ih =>
    intro c hc
    rcases List.mem_append.1 hc with h | h
    · exact cv_leaf k _ _ h
    · exact ih _ h

def TVRel (m : GM) : TV → Value → Prop
  | .lf x, v => LRel m x v
  | .agg es, v => ∃ cs, v = .agg cs ∧ OCells m es cs.toList

def TVs (m : GM) : List TV → List Value → Prop
  | [], [] => True
  | x :: r, v :: s => TVRel m x v ∧ TVs m r s
  | _, _ => False

def AVRel (m : GM) : AV → Value → Prop
  | .tv x, v => TVRel m x v
  | .tup l, v => ∃ vs, v = .tuple vs ∧ TVs m l vs.toList

theorem TVRel.ents {m : GM} {x : TV} {v : Value} (h : TVRel m x v) : OCells m x.ents v.cells.toList := by
  cases x with
  | lf x =>
    have hl := LRel.leaf h
    rw [hl.cells]
    cases x <;> first | exact ⟨[v], [], rfl, ⟨v, rfl, h⟩, rfl⟩ | exact h.elim
  | agg es => obtain ⟨cs, rfl, ho⟩ := h; exact ho

theorem ocells_leaf {m : GM} (es : List LV) : ∀ (cs : List Value), OCells m es cs → ∀ c ∈ cs, leafV c := by
  induction es with
  | nil => intro cs ho c hc; simp only [OCells] at ho; subst ho; cases hc
  | cons y r ih =>
    rintro cs ⟨a, b, rfl, hy, hr⟩ c hc
    rcases List.mem_append.1 hc with hc | hc
    · cases y
      case seq k n l => obtain ⟨_, rfl⟩ := hy; exact cvs_leaf k l c hc
      all_goals (obtain ⟨v, rfl, hv⟩ := hy; simp only [List.mem_singleton] at hc; subst hc; exact hv.leaf)
    · exact ih b hr c hc

theorem TVRel.leaves {m : GM} {x : TV} {v : Value} (h : TVRel m x v) : ∀ c ∈ v.cells.toList, leafV c := ocells_leaf _ _ h.ents

end Go.Proofs.Ytlokielmpdjedaa.Ev
