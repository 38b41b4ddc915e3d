/- Merged: UndoK, PureUndoKeeps. -/
import Derived.Test.YtlgopekjjkdkiaaDoorMUndoKeepsCard6
import Derived.Test.YtlgopekjjkdkiaaDoorMUndoKeepsCard5
section
/- A disk on which entries of a try are kept; an entry more, while a fuse burns. -/
namespace Go.Proofs.YtlgopekjjkdkiaaDoor.X
open Go Go.Proofs.YtlgopekjjkdkiaaDoor.Ev
set_option linter.unusedSectionVars false
variable [FZ]
set_option linter.unusedVariables false
set_option linter.unusedSimpArgs false

structure KU (n f c u e : Int) (m : Nat) (E : EL) (l : List ByteArray) : Prop where
  len : (l.length : Int) = 6 + n + nodes n f c u + 2 * u
  el : E.length = m
  mc : (m : Int) ≤ u
  ent : ∀ j : Nat, j < m → ∃ p : Int, mayb n f c u p = true ∧ E.drop j = (5, (e, (p, Z64))) :: E.drop (j + 1) ∧ l.getD (6 + n + nodes n f c u + 2 * (j : Int)).toNat ByteArray.empty = uhB 5 e j p cZ
  oth : ∀ x : Nat, x < l.length → (∀ j : Nat, j < m → (x : Int) ≠ 6 + n + nodes n f c u + 2 * (j : Int)) → l.getD x ByteArray.empty = Z64

section
variable {n f c u e : Int} {m : Nat} {E : EL} {l : List ByteArray}

theorem KU.sz (h : KU n f c u e m E l) : ∀ x : Nat, x < l.length → (l.getD x ByteArray.empty).size ≤ 100 := by
  intro x hx
  by_cases hj : ∃ j : Nat, j < m ∧ (x : Int) = 6 + n + nodes n f c u + 2 * (j : Int)
  · obtain ⟨j, h1, h2⟩ := hj
    obtain ⟨p, _, _, h5⟩ := h.ent j h1
    have : x = (6 + n + nodes n f c u + 2 * (j : Int)).toNat := by omega
    rw [this, h5, uhB_size]; omega
  · rw [h.oth x hx (fun j h1 h2 => hj ⟨j, h1, h2⟩), Z64_size]; omega

theorem notU : ¬ isU Z64 := fun hh => opn_zero 7 hh.1

/-- The try's entries, read from the disk. -/
theorem KU.usc_eq (h : KU n f c u e m E l) (hr : rt n f c u) {e0 : Int} (he0 : e0 < e) (he : U64 e) : ∀ (d j k : Nat), d + j = m → ((k + j : Nat) : Int) = u → ∀ out : EL, out ++ E.drop j = E → out.length = j → usc n f c u e0 false l [] k j out = (0, E)
  | 0, j, 0, hd, hk, out, ho, _ => by
    have : E.drop j = [] := List.drop_eq_nil_of_le (by rw [h.el]; omega)
    rw [this, List.append_nil] at ho
    rw [usc, ho]
  | 0, j, k + 1, hd, hk, out, ho, _ => by
    have hl := h.len
    have hno := nodes_ok n f c u
    have hn := hr.1
    have : E.drop j = [] := List.drop_eq_nil_of_le (by rw [h.el]; omega)
    rw [this, List.append_nil] at ho
    have hx : 0 ≤ 6 + n + nodes n f c u + 2 * (j : Int) ∧ 6 + n + nodes n f c u + 2 * (j : Int) < (l.length : Int) := by omega
    have hz : l.getD (6 + n + nodes n f c u + 2 * (j : Int)).toNat ByteArray.empty = Z64 := h.oth _ (by omega) (fun j' h1 h2 => by omega)
    rw [usc, rd_nil' hx, hz, if_neg (by simp), if_pos (fun hh => notU hh.1), ho]
  | d + 1, j, 0, hd, hk, out, ho, _ => by have := h.mc; omega
  | d + 1, j, k + 1, hd, hk, out, ho, hol => by
    have hl := h.len
    have hno := nodes_ok n f c u
    have hn := hr.1
    have hu := hr.2.2.2
    obtain ⟨p, h1, h3', h4'⟩ := h.ent j (by omega)
    have hp : 6 ≤ p ∧ p < 6 + n + nodes n f c u := of_decide_eq_true h1
    have hx : 0 ≤ 6 + n + nodes n f c u + 2 * (j : Int) ∧ 6 + n + nodes n f c u + 2 * (j : Int) < (l.length : Int) := by omega
    have hx2 : 0 ≤ 6 + n + nodes n f c u + (2 * (j : Int) + 1) ∧ 6 + n + nodes n f c u + (2 * (j : Int) + 1) < (l.length : Int) := by omega
    have hz : l.getD (6 + n + nodes n f c u + (2 * (j : Int) + 1)).toNat ByteArray.empty = Z64 := h.oth _ (by omega) (fun j' h1 h2 => by omega)
    have ho8 : opn 7 (uhB 5 e j p cZ) = (ofInts (uhL 5 e j p cZ), 0) := mkB_open (by omega) (by omega) (by rw [oi_size, uhL_len]; omega)
    have hH : isU (uhB 5 e j p cZ) := by
      unfold isU
      rw [ho8]
      exact ⟨rfl, by show (ofInts (uhL 5 e j p cZ)).size = 28; rw [oi_size, uhL_len]⟩
    obtain ⟨t1, t2, t3, t4, t5⟩ := h_hd (t := 5) (e := e) (k := j) (p := p) (s := cZ) (by omega) he (by omega) (by omega) cZ_r
    have hti : toInts (opn 7 (uhB 5 e j p cZ)).1 = uhL 5 e j p cZ := by rw [ho8]; exact toInts_ofInts (uhL_r _ _ _ _ _)
    have hok : okU n f c u e0 j (uhB 5 e j p cZ) (out.getD 0 E0).1 (out.getD 0 E0).2.1 := by
      refine ⟨hH, by rw [hti, t3], by rw [hti, t4]; exact h1, by rw [hti, t2]; exact he0, fun h0 => ?_⟩
      obtain ⟨p0, _, q2, _⟩ := h.ent 0 (by omega)
      have : out.getD 0 E0 = (5, (e, (p0, Z64))) := by
        rw [List.drop_zero] at q2
        rw [q2] at ho
        cases out with
        | nil => simp at hol; omega
        | cons y r => exact (List.cons.inj ho).1
      rw [this, hti, t1, t2]; exact ⟨rfl, rfl⟩
    rw [usc, rd_nil' hx, h4', rd_nil' hx2, hz, if_neg (by simp), if_neg (fun hh => hh hok), if_neg (by simp), hti, t1, t2, t4, t5, if_neg (fun hh => hh rfl)]
    exact KU.usc_eq h hr he0 he d (j + 1) k (by omega) (by omega) _ (by rw [List.append_assoc]; rw [h3'] at ho; exact ho) (by simp; omega)

/-- One entry more. -/
theorem KU.more (h : KU n f c u e m E l) (hr : rt n f c u) (hm : (m : Int) < u) {p : Int} (hp : mayb n f c u p = true) : KU n f c u e (m + 1) (E ++ [(5, (e, (p, Z64)))]) (put1 l (6 + n + nodes n f c u + 2 * (m : Int), uhB 5 e m p cZ)) := by
  have hl := h.len
  have hno := nodes_ok n f c u
  have hn := hr.1
  refine ⟨by rw [put1_len]; exact hl, by simp [h.el], by omega, fun j hj => ?_, fun x hx hno' => ?_⟩
  · rcases Nat.lt_or_ge j m with h1 | h1
    · obtain ⟨i', q1, q3, q4⟩ := h.ent j h1
      refine ⟨i', q1, ?_, ?_⟩
      · rw [List.drop_append_of_le_length (by rw [h.el]; omega), List.drop_append_of_le_length (by rw [h.el]; omega), q3]; rfl
      · rw [put1]
        show (l.set (6 + n + nodes n f c u + 2 * (m : Int)).toNat _).getD _ _ = _
        rw [List.getD_eq_getElem?_getD, List.getElem?_set_ne (by omega), ← List.getD_eq_getElem?_getD, q4]
    · have e' : j = m := by omega
      subst e'
      refine ⟨p, hp, ?_, ?_⟩
      · have el := h.el
        rw [List.drop_left' el, List.drop_eq_nil_of_le (by simp; omega)]
      · rw [put1]
        show (l.set (6 + n + nodes n f c u + 2 * (j : Int)).toNat _).getD _ _ = _
        rw [List.getD_eq_getElem?_getD, List.getElem?_set_self (by omega)]; rfl
  · rw [put1_len] at hx
    rw [put1]
    show (l.set (6 + n + nodes n f c u + 2 * (m : Int)).toNat _).getD _ _ = _
    rw [List.getD_eq_getElem?_getD, List.getElem?_set_ne (by have := hno' m (by omega); omega), ← List.getD_eq_getElem?_getD]
    exact h.oth x hx fun j hj => hno' j (by omega)

theorem DSu (hk : KU n f c u e m E l) (hl : l.length ≤ 2000) {q : Nat} (hq : q ≤ 300) {a d : Int} (ha : -1 ≤ a ∧ a ≤ 9223372036854775807) (hd : 0 ≤ d ∧ d ≤ q) : DS l.length q a d l [] :=
  ⟨hl, hq, rfl, by simp, fun p hp => (by cases hp), ha, hd⟩

/-- An entry more, or none. -/
theorem un_ok {i d : Int} (h : rt n f c u) (hk : KU n f c u e m E l) :
    (∃ code, code ≠ 0 ∧ unS n f c u m 5 e i (-1) false d l [] = (0, 0, 0, ByteArray.empty, code, -1, false, d, l, [])) ∨
    (mayb n f c u i = true ∧ (m : Int) < u ∧ unS n f c u m 5 e i (-1) false d l [] = (5, e, i, Z64, 0, -1, false, d + 1 + 1 + 1 + 1, put1 l (6 + n + nodes n f c u + 2 * (m : Int), uhB 5 e m i cZ), [])) := by
  have hn := h.1
  have hu := h.2.2.2
  have hno := nodes_ok n f c u
  have hl := hk.len
  unfold unS
  rw [if_neg (fun hh => hh h)]
  by_cases h1 : (m : Int) < 0 ∨ (m : Int) ≥ u
  · rw [if_pos h1]; exact .inl ⟨11, by decide, rfl⟩
  · rw [if_neg h1]
    by_cases h2 : mayb n f c u i = true
    · have hp : 6 ≤ i ∧ i < 6 + n + nodes n f c u := of_decide_eq_true h2
      have hx : 0 ≤ i ∧ i < (l.length : Int) := by omega
      have hz : l.getD i.toNat ByteArray.empty = Z64 := hk.oth _ (by omega) (fun j hj => by omega)
      have hx1 : 0 ≤ 6 + n + nodes n f c u + (2 * (m : Int) + 1) ∧ 6 + n + nodes n f c u + (2 * (m : Int) + 1) < (l.length : Int) := by omega
      have hz1 : l.getD (6 + n + nodes n f c u + (2 * (m : Int) + 1)).toNat ByteArray.empty = Z64 := hk.oth _ (by omega) (fun j hj => by omega)
      have hx2 : 0 ≤ 6 + n + nodes n f c u + 2 * (m : Int) ∧ 6 + n + nodes n f c u + 2 * (m : Int) < (l.length : Int) := by omega
      refine .inr ⟨h2, by omega, ?_⟩
      rw [if_neg (show ¬ (mayb n f c u i = false) by rw [h2]; simp), rd_nil' hx, hz]
      simp only
      rw [if_neg (by simp), (svS_at hx1 Z64_size).1 rfl, put_same hx1 hz1]
      simp only
      rw [if_neg (by simp), show crc (toInts Z64) = cZ from rfl, (svS_at hx2 (uhB_size _ _ _ _ _)).1 rfl]
      simp
    · have h2' : mayb n f c u i = false := by simpa using h2
      rw [if_pos h2']; exact .inl ⟨3, by decide, rfl⟩

theorem crB_one {ks : List Bool} {p : Int × ByteArray} {l : List ByteArray} : crB ks 0 [p] l = l ∨ crB ks 0 [p] l = put1 l p := by
  rw [crB, crB]
  cases ks.getD 0 false with
  | false => exact .inl rfl
  | true => exact .inr rfl

/-- An entry more, while a fuse burns. -/
theorem un_fuse {z d : Int} (ks : List Bool) (h : rt n f c u) (hk : KU n f c u e m E l) (hl2 : l.length ≤ 2000) (hz : 0 ≤ z ∧ z ≤ 9223372036854775807) (hd : 0 ≤ d ∧ d ≤ 240) :
    ∃ (x0 x1 x2 : Int) (x3 : ByteArray) (code a' d' : Int) (b' : Bool) (l' : List ByteArray) (w' : WL), unS n f c u m 5 e 6 z false d l [] = (x0, x1, x2, x3, code, a', b', d', l', w') ∧ (∃ q, DS l'.length q a' d' l' w' ∧ q < 290) ∧
      ((crB ks 0 w' l' = l ∧ code ≠ 0) ∨ ((m : Int) < u ∧ crB ks 0 w' l' = put1 l (6 + n + nodes n f c u + 2 * (m : Int), uhB 5 e m 6 cZ) ∧ (code ≠ 0 ∨ (x0 = 5 ∧ x1 = e ∧ x2 = 6 ∧ x3 = Z64)))) ∧ 0 ≤ d' ∧ d' ≤ 280 := by
  have hn := h.1
  have hu := h.2.2.2
  have hno := nodes_ok n f c u
  have hl := hk.len
  have hD : ∀ a d, -1 ≤ a ∧ a ≤ 9223372036854775807 → 0 ≤ d ∧ d ≤ 280 → ∃ q, DS l.length q a d l [] ∧ q < 290 := fun a d ha hd => ⟨280, DSu hk hl2 (by omega) ha hd, by omega⟩
  have hD1 : ∀ a d p, -1 ≤ a ∧ a ≤ 9223372036854775807 → 0 ≤ d ∧ d ≤ 280 → 0 ≤ p.1 ∧ p.1 < (l.length : Int) → ∃ q, DS l.length q a d l [p] ∧ q < 290 := fun a d p ha hd hp => ⟨280, ⟨hl2, by omega, rfl, by simp, fun p' hp' => (by simp at hp'; rw [hp']; exact hp), ha, hd⟩, by omega⟩
  have hD2 : ∀ a d p, -1 ≤ a ∧ a ≤ 9223372036854775807 → 0 ≤ d ∧ d ≤ 280 → ∃ q, DS (put1 l p).length q a d (put1 l p) [] ∧ q < 290 := fun a d p ha hd => ⟨280, ⟨by rw [put1_len]; exact hl2, by omega, rfl, by simp, fun p' hp' => (by cases hp'), ha, hd⟩, by omega⟩
  have h6 : mayb n f c u 6 = true := decide_eq_true ⟨by omega, by omega⟩
  unfold unS
  rw [if_neg (fun hh => hh h)]
  by_cases h1 : (m : Int) < 0 ∨ (m : Int) ≥ u
  · rw [if_pos h1]; exact ⟨0, 0, 0, ByteArray.empty, 11, z, d, false, l, [], rfl, hD z d (by omega) (by omega), .inl ⟨rfl, by decide⟩, by omega, by omega⟩
  · rw [if_neg h1, if_neg (show ¬ (mayb n f c u 6 = false) by rw [h6]; simp)]
    have hx : 0 ≤ (6 : Int) ∧ (6 : Int) < (l.length : Int) := by omega
    have hz0 : l.getD ((6 : Int)).toNat ByteArray.empty = Z64 := hk.oth _ (by omega) (fun j hj => by omega)
    have hx1 : 0 ≤ 6 + n + nodes n f c u + (2 * (m : Int) + 1) ∧ 6 + n + nodes n f c u + (2 * (m : Int) + 1) < (l.length : Int) := by omega
    have hz1 : l.getD (6 + n + nodes n f c u + (2 * (m : Int) + 1)).toNat ByteArray.empty = Z64 := hk.oth _ (by omega) (fun j hj => by omega)
    have hx2 : 0 ≤ 6 + n + nodes n f c u + 2 * (m : Int) ∧ 6 + n + nodes n f c u + 2 * (m : Int) < (l.length : Int) := by omega
    rw [rd_nil' hx, hz0]
    simp only
    rw [if_neg (show ¬ (0 : Int) ≠ 0 by simp), show crc (toInts Z64) = cZ from rfl]
    rcases (show z = 0 ∨ z = 1 ∨ 2 ≤ z by omega) with rfl | rfl | hz2
    · rw [(svS_at hx1 Z64_size).2.1 rfl]
      simp only
      rw [if_pos (by decide)]
      exact ⟨0, 0, 0, ByteArray.empty, 5, -1, d, true, l, [], rfl, hD _ _ (by omega) (by omega), .inl ⟨rfl, by decide⟩, by omega, by omega⟩
    · rw [(svS_at hx1 Z64_size).2.2.1 rfl]
      simp only
      rw [if_pos (by decide)]
      refine ⟨0, 0, 0, ByteArray.empty, 5, -1, d + 1, true, l, [(6 + n + nodes n f c u + (2 * (m : Int) + 1), Z64)], rfl, hD1 _ _ _ (by omega) (by omega) hx1, .inl ⟨?_, by decide⟩, by omega, by omega⟩
      rcases crB_one (ks := ks) (p := (6 + n + nodes n f c u + (2 * (m : Int) + 1), Z64)) (l := l) with q | q
      · exact q
      · rw [q, put_same hx1 hz1]
    · rw [(svS_at hx1 Z64_size).2.2.2 hz2, put_same hx1 hz1]
      simp only
      rw [if_neg (show ¬ (0 : Int) ≠ 0 by simp)]
      rcases (show z - 1 - 1 = 0 ∨ z - 1 - 1 = 1 ∨ 2 ≤ z - 1 - 1 by omega) with h5 | h5 | h5
      · rw [(svS_at hx2 (uhB_size 5 e m 6 cZ)).2.1 h5]
        simp only
        rw [if_pos (by decide)]
        exact ⟨0, 0, 0, ByteArray.empty, 5, -1, d + 1 + 1, true, l, [], rfl, hD _ _ (by omega) (by omega), .inl ⟨rfl, by decide⟩, by omega, by omega⟩
      · rw [(svS_at hx2 (uhB_size 5 e m 6 cZ)).2.2.1 h5]
        simp only
        rw [if_pos (by decide)]
        refine ⟨0, 0, 0, ByteArray.empty, 5, -1, d + 1 + 1 + 1, true, l, [(6 + n + nodes n f c u + 2 * (m : Int), uhB 5 e m 6 cZ)], rfl, hD1 _ _ _ (by omega) (by omega) hx2, ?_, by omega, by omega⟩
        rcases crB_one (ks := ks) (p := (6 + n + nodes n f c u + 2 * (m : Int), uhB 5 e m 6 cZ)) (l := l) with q | q
        · exact .inl ⟨q, by decide⟩
        · exact .inr ⟨by omega, q, .inl (by decide)⟩
      · rw [(svS_at hx2 (uhB_size 5 e m 6 cZ)).2.2.2 h5]
        simp only
        rw [if_neg (show ¬ (0 : Int) ≠ 0 by simp)]
        exact ⟨5, e, 6, Z64, 0, z - 1 - 1 - 1 - 1, d + 1 + 1 + 1 + 1, false, _, [], rfl, hD2 _ _ _ (by omega) (by omega), .inr ⟨by omega, rfl, .inr ⟨rfl, rfl, rfl, rfl⟩⟩, by omega, by omega⟩

/-- Cleared: no entries. -/
theorem cl_none (h : rt n f c u) (hl : (l.length : Int) = 6 + n + nodes n f c u + 2 * u) {e0 d : Int} : clS n f c u (-1) false d l [] = (0, -1, false, d + 1 + 1, put1 l (6 + n + nodes n f c u, Z64), []) ∧
    usG n f c u e0 false (put1 l (6 + n + nodes n f c u, Z64)) [] = (0, []) := by
  have hn := h.1
  have hu := h.2.2.2
  have hno := nodes_ok n f c u
  have hx : 0 ≤ 6 + n + nodes n f c u ∧ 6 + n + nodes n f c u < (l.length : Int) := by omega
  refine ⟨?_, ?_⟩
  · rw [clS, if_pos h, (svS_at hx Z64_size).1 rfl]
  · rw [usG, if_pos h]
    obtain ⟨k, hk⟩ : ∃ k, u.toNat = k + 1 := ⟨u.toNat - 1, by omega⟩
    have hx' : 0 ≤ 6 + n + nodes n f c u + 2 * ((0 : Nat) : Int) ∧ 6 + n + nodes n f c u + 2 * ((0 : Nat) : Int) < ((put1 l (6 + n + nodes n f c u, Z64)).length : Int) := by rw [put1_len]; omega
    have hg : (put1 l (6 + n + nodes n f c u, Z64)).getD (6 + n + nodes n f c u + 2 * ((0 : Nat) : Int)).toNat ByteArray.empty = Z64 := by
      rw [put1, show (6 + n + nodes n f c u + 2 * ((0 : Nat) : Int)).toNat = (6 + n + nodes n f c u).toNat by omega]
      show (l.set (6 + n + nodes n f c u).toNat _).getD _ _ = _
      rw [List.getD_eq_getElem?_getD, List.getElem?_set_self (by omega)]; rfl
    rw [hk, usc, rd_nil' hx', hg, if_neg (by simp), if_pos (fun hh => notU hh.1)]
end

theorem clS_ok0 {m q : Nat} {n f c u a d : Int} {b : Bool} {l : List ByteArray} {w : WL} (h : DS m q a d l w) (hq : q < 290) :
    DS m (q + 4) (clS n f c u a b d l w).2.1 (clS n f c u a b d l w).2.2.2.1 (clS n f c u a b d l w).2.2.2.2.1 (clS n f c u a b d l w).2.2.2.2.2 := by
  have h4 : DS m (q + 4) a d l w := (((h.more (by omega)).more (by omega)).more (by omega)).more (by omega)
  unfold clS
  split
  · exact ((svS_ok h (by omega)).more (by omega)).more (by omega)
  · exact h4

end Go.Proofs.YtlgopekjjkdkiaaDoor.X
end

section
/- The law: entries of a try are what Scan tells. -/
namespace Go.Proofs.YtlgopekjjkdkiaaDoor.X
open Go Go.Proofs.YtlgopekjjkdkiaaDoor.Ev
set_option linter.unusedSectionVars false
variable [FZ]
set_option linter.unusedVariables false
set_option linter.unusedSimpArgs false

set_option maxRecDepth 100000 in
theorem known15 {β : Type} {K : Bool → Option β} : f15_1 20000 K = K true := by kernel_rfl

theorem sizeT {β : Type} {n f c u : Int} (h : rt n f c u) {K : Int → Option β} : f8_1 20000 n f c u 1 K = K (6 + n + nodes n f c u + 2 * u) := by
  have hn := h.1
  have hu := h.2.2.2
  have hno := nodes_ok n f c u
  rw [f8_1, f25_1, show ((1 : Int) == 0) = false from rfl, cond_false, show ((1 : Int) == 1) = true from rfl, cond_true, right47, decide_eq_true h, Bool.not_true, cond_false, w64 (x := 2 * u) (by omega) (by omega), cf (by omega), nodes51, w64 (x := 6 + n) (by omega) (by omega), w64 (x := 6 + n + nodes n f c u) (by omega) (by omega), w64 (by omega) (by omega)]

theorem ambT {β : Type} {x : Option β} : (fun z1 : Option β => amb z1 z1) x = x := amb_self x

theorem plays {β : Type} {n f c u e z : Int} {acts : List Int} {ks : Sl .bool} (h : rt n f c u) (ha : acts.length ≤ 60) {K0 : Int → Bool → Int → List ByteArray → WL → EL → Option β} {r0 : Option β}
    (hK : ∀ (m : Nat) (E : EL) (l : List ByteArray) (d : Int), KU n f c u e m E l → 0 ≤ d ∧ d ≤ 240 → K0 (-1) false d l [] E = r0) : ∀ (r : List Int) (i k : Nat) (m : Nat) (E : EL) (l : List ByteArray) (d : Int), acts.drop i = r → i ≤ acts.length → r.length < k →
    KU n f c u e m E l → 0 ≤ d ∧ d ≤ 4 * (i : Int) →
    f4_1_l6_2 20000 e acts n f c u z ks K0 k (i : Int) (-1) false d l [] E = r0
  | [], i, 0, _, _, _, _, _, _, hk, _, _ => by simp at hk
  | _ :: _, i, 0, _, _, _, _, _, _, hk, _, _ => by simp at hk
  | [], i, k + 1, m, E, l, d, hd, hi, _, hk, hdd => by
    have := len_of_drop_nil hd hi
    rw [f4_1_l6_2, cf (by omega)]
    exact hK m E l d hk (by omega)
  | x :: r, i, k + 1, m, E, l, d, hd, hi, hf, hk, hdd => by
    obtain ⟨h1, h2, h3⟩ := getD_of_drop (d := (0 : Int)) hd
    have hn := h.1
    have hu := h.2.2.2
    have hno := nodes_ok n f c u
    have hl := hk.len
    have hmc := hk.mc
    have hsz := rd_sz hk.sz
    have hD : DS l.length (4 * i) (-1) d l [] := by
      refine DSu hk ?_ (by omega) (by omega) (by omega)
      have := nodes_up h
      omega
    rw [f4_1_l6_2, ct (by omega), ct (by omega), ct (by omega), ambT, h2, hk.el, unP hD (by omega) (hsz _), app10, w64 (x := (i : Int) + 1) (by omega) (by omega)]
    rcases un_ok (i := x) (d := d) h hk with ⟨code, q1, q2⟩ | ⟨q1, q3, q4⟩
    · rw [q2]
      show cond (code == 0) _ _ = _
      rw [show (code == 0) = false by simp [q1], cond_false]
      have ih := plays (z := z) (ks := ks) h ha hK r (i + 1) k m E l d h3 (by omega) (by simp at hf; omega) hk (by omega)
      push_cast at ih
      exact ih
    · rw [q4]
      show cond ((0 : Int) == 0) _ _ = _
      rw [beq_self_eq_true, cond_true, ct (by omega)]
      have ih := plays (z := z) (ks := ks) h ha hK r (i + 1) k (m + 1) _ _ (d + 1 + 1 + 1 + 1) h3 (by omega) (by simp at hf; omega) (hk.more h q3 q1) (by omega)
      push_cast at ih
      exact ih

theorem beginsL {β : Type} {E S : EL} (hE : E.length ≤ 1000) (h : S = E ∨ ∃ y, S = E ++ [y]) {K : Bool → Option β} : f18_1 20000 S E K = K true := by
  have e0 : (((E.length : Nat) : Int) - 0).toNat = E.length := by omega
  rw [f18_1]
  rcases h with rfl | ⟨y, rfl⟩
  · rw [ct (by omega), ct ⟨by omega, by omega, by omega⟩, e0, List.drop_zero, List.take_of_length_le (by omega), entP (by omega)]
  · have hl : (E ++ [y]).length = E.length + 1 := by simp
    have ht : (E ++ [y]).take E.length = E := List.take_left' rfl
    rw [hl, ct (by omega), ct ⟨by omega, by omega, by omega⟩, e0, List.drop_zero, ht, entP (by omega)]

theorem law_true {β : Type} (n f c u e z : Int) (ks : Sl .bool) (acts : List Int) {q1 q2 q3 q4 q5 q6 q7 : Prop} (_ : q1) (_ : q2) (_ : q3) (_ : q4) (_ : q5) (_ : q6) (he : (Lit.int .u64 e).wf = true) (hz : (Lit.int .i64 z).wf = true) (_ : q7) (r0 : β) :
    ∃ F, f4_1 F n f c u e z ks acts (fun b => cond b (some r0) none) = some r0 := by
  refine ⟨20000, ?_⟩
  have he := u64_of_wf he
  have hz := i64_of_wf hz
  rw [f4_1, right47]
  by_cases h : rt n f c u
  · have hn := h.1
    have hu := h.2.2.2
    have hno := nodes_ok n f c u
    have hup := nodes_up h
    rw [decide_eq_true h, Bool.not_true, cond_false]
    by_cases h1 : n > 20
    · rw [ct h1, known15]; rfl
    by_cases h2 : u > 40
    · rw [cf h1, ct h2, known15]; rfl
    by_cases h0 : e < 1
    · rw [cf h1, cf h2, ct h0, known15]; rfl
    by_cases h3 : z < 0
    · rw [cf h1, cf h2, cf h0, ct h3, known15]; rfl
    by_cases h4 : ((acts.length : Nat) : Int) > 60
    · rw [cf h1, cf h2, cf h0, cf h3, ct h4, known15]; rfl
    obtain ⟨M, hM⟩ : ∃ M : Nat, (M : Int) = 6 + n + nodes n f c u + 2 * u := ⟨(6 + n + nodes n f c u + 2 * u).toNat, by omega⟩
    rw [cf h1, cf h2, cf h0, cf h3, cf h4, sizeT h, ← hM, newP (by omega) (by omega)]
    have hk0 : KU n f c u e 0 [] (List.replicate M Z64) := ⟨by simp; omega, rfl, by omega, fun j hj => by omega, fun x hx _ => by
      rw [List.length_replicate] at hx
      rw [List.getD_eq_getElem?_getD, List.getElem?_replicate, if_pos hx]; rfl⟩
    refine plays h (by omega) ?_ acts 0 20000 0 [] (List.replicate M Z64) 0 rfl (by omega) (by omega) hk0 (by omega)
    intro m E l d hk hd
    have hl := hk.len
    have hmc := hk.mc
    have hel := hk.el
    have hl2 : l.length ≤ 2000 := by omega
    have hsz := rd_sz hk.sz
    have hD : ∀ a d, -1 ≤ a ∧ a ≤ 9223372036854775807 → 0 ≤ d ∧ d ≤ 280 → DS l.length 280 a d l [] := fun a d ha hd => DSu hk hl2 (by omega) ha hd
    have hw1 : IntKind.u64.wrap (e - 1) = e - 1 := wu64 (by omega) (by omega)
    have sc : ∀ {m : Nat} {E : EL} {l : List ByteArray}, KU n f c u e m E l → usG n f c u (e - 1) false l [] = (0, E) := fun {m E l} hk' => by
      have hmc' := hk'.mc
      rw [usG, if_pos h]
      exact hk'.usc_eq h (by omega) he m 0 u.toNat (by omega) (by omega) [] rfl rfl
    rw [hw1, usGP (hD (-1) d (by omega) (by omega)) hsz, sc hk]
    show cond ((0 : Int) != 0) _ (f14_1 20000 E E _) = _
    rw [bnf rfl, cond_false, entP (by omega), Bool.not_true, cond_false, f10_1, if_neg (by omega), unP (hD z d (by omega) (by omega)) (by omega) (hsz _), app10, hel]
    obtain ⟨x0, x1, x2, x3, code, a', d', b', l', w', e1, ⟨q, e2, e2'⟩, e3, e4, e5⟩ := un_fuse (d := d) ks.dat h hk hl2 ⟨by omega, hz.2⟩ (by omega)
    rw [e1]
    show f11_1 20000 a' b' d' l' w' ks.dat _ = _
    rw [crashP (by omega) e2, f12_1, Bool.not_true, cond_false]
    -- cleared
    have clr : ∀ {m : Nat} {E : EL} {l : List ByteArray} (hk' : KU n f c u e m E l) (hl2' : l.length ≤ 2000), f19_1 20000 n f c u (-1) false d' l [] (fun x103 x104 x105 x106 x107 x108 => f17_1 20000 n f c u (e - 1) x104 x105 x106 x107 x108 (fun x109 x110 => cond (x103 == 0) (cond (x109 == 0) (cond (((x110.length : Nat) : Int) == 0) (f15_1 20000 (fun x111 => cond x111 (some r0) none)) (cond false (some r0) none)) (cond false (some r0) none)) (cond false (some r0) none))) = some r0 := by
      intro m E l hk' hl2'
      have hD' := DSu hk' hl2' (q := 280) (a := -1) (d := d') (by omega) (by omega) (by omega)
      obtain ⟨c1, c2⟩ := cl_none (e0 := e - 1) (d := d') h hk'.len
      have hok := clS_ok0 (n := n) (f := f) (c := c) (u := u) (b := false) hD' (by omega)
      have hs2 : ∀ x, (rd x false (put1 l (6 + n + nodes n f c u, Z64)) []).1.size ≤ 100 := rd_sz fun x hx => by
        rw [put1_len] at hx
        rw [put1]
        show ((l.set (6 + n + nodes n f c u).toNat Z64).getD x ByteArray.empty).size ≤ 100
        rw [List.getD_eq_getElem?_getD, List.getElem?_set]
        split
        · split
          · show Z64.size ≤ 100; rw [Z64_size]; omega
          · show ByteArray.empty.size ≤ 100; decide
        · rw [← List.getD_eq_getElem?_getD]; exact hk'.sz x hx
      rw [clP hD' (by omega), app, c1]
      rw [c1] at hok
      show f17_1 20000 n f c u (e - 1) (-1) false (d' + 1 + 1) (put1 l (6 + n + nodes n f c u, Z64)) [] _ = _
      rw [usGP hok hs2, c2]
      show cond ((0 : Int) == 0) (cond ((0 : Int) == 0) (cond (((([] : EL).length : Nat) : Int) == 0) _ _) _) _ = _
      rw [beq_self_eq_true, cond_true, cond_true, show (((([] : EL).length : Nat) : Int) == 0) = true from rfl, cond_true, known15]; rfl
    rcases e3 with ⟨h5, h6⟩ | ⟨h7, h5, h6⟩
    · rw [h5, usGP (hD (-1) d' (by omega) ⟨e4, e5⟩) hsz, sc hk]
      show cond ((0 : Int) != 0) _ (f18_1 20000 E E _) = _
      rw [bnf rfl, cond_false, beginsL (by omega) (.inl rfl), Bool.not_true, cond_false, hel, w64 (x := (m : Int) + 1) (by omega) (by omega), cf (by omega)]
      show cond (code == 0) _ _ = _
      rw [show (code == 0) = false by simp [h6], cond_false]
      exact clr hk hl2
    · have h6m : mayb n f c u 6 = true := decide_eq_true ⟨by omega, by omega⟩
      have hk2 := hk.more h h7 h6m
      have hl3 : (put1 l (6 + n + nodes n f c u + 2 * (m : Int), uhB 5 e m 6 cZ)).length ≤ 2000 := by rw [put1_len]; exact hl2
      rw [h5, usGP (DSu hk2 hl3 (q := 280) (by omega) (by omega) ⟨e4, e5⟩) (rd_sz hk2.sz), sc hk2]
      show cond ((0 : Int) != 0) _ _ = _
      have hl1 : (E ++ [((5, (e, (6, Z64))) : Int × (Int × (Int × ByteArray)))]).length = m + 1 := by simp [hel]
      rw [bnf rfl, cond_false, beginsL (by omega) (.inr ⟨_, rfl⟩), Bool.not_true, cond_false, hl1, w64 (x := (m : Int) + 1) (by omega) (by omega), cf (by omega)]
      show cond (code == 0) _ _ = _
      by_cases hc0 : code = 0
      · rcases h6 with h6 | ⟨rfl, rfl, rfl, rfl⟩
        · exact (h6 hc0).elim
        · rw [show (code == 0) = true by simp [hc0], cond_true, bnf (by omega), cond_false, ct ⟨by omega, by omega⟩, ct (by omega)]
          have hg : (E ++ [((5, (x1, (6, Z64))) : Int × (Int × (Int × ByteArray)))]).getD (0 + ((m : Int).toNat)) (0, (0, (0, ByteArray.empty))) = (5, (x1, (6, Z64))) := by
            rw [show 0 + ((m : Int).toNat) = E.length by omega]; simp
          show cond (!((((E ++ [((5, (x1, (6, Z64))) : Int × (Int × (Int × ByteArray)))]).getD (0 + ((m : Int).toNat)) (0, (0, (0, ByteArray.empty)))).1 == 5) && ((((E ++ [((5, (x1, (6, Z64))) : Int × (Int × (Int × ByteArray)))]).getD (0 + ((m : Int).toNat)) (0, (0, (0, ByteArray.empty)))).2.1 == x1) && ((((E ++ [((5, (x1, (6, Z64))) : Int × (Int × (Int × ByteArray)))]).getD (0 + ((m : Int).toNat)) (0, (0, (0, ByteArray.empty)))).2.2.1 == 6) && (((E ++ [((5, (x1, (6, Z64))) : Int × (Int × (Int × ByteArray)))]).getD (0 + ((m : Int).toNat)) (0, (0, (0, ByteArray.empty)))).2.2.2.toList == Z64.toList))))) _ _ = _
          rw [hg, show (!(((5 : Int) == 5) && ((x1 == x1) && (((6 : Int) == 6) && (Z64.toList == Z64.toList))))) = false by simp, cond_false]
          exact clr hk2 hl3
      · rw [show (code == 0) = false by simp [hc0], cond_false]
        exact clr hk2 hl3
  · rw [decide_eq_false h, Bool.not_false, cond_true, known15]; rfl

end Go.Proofs.YtlgopekjjkdkiaaDoor.X
end
