/- Merged: CowE, UndoC, DiskW, PlayA, PureUndoPlays. -/
import Derived.Test.YtlgopekjjkdkiaaGreatDoorMUndoPlaysCard7
import Derived.Test.YtlgopekjjkdkiaaGreatDoorMUndoPlaysCard6
import Derived.Test.YtlgopekjjkdkiaaGreatDoorMUndoPlaysCard3
section
/- Sectors that are kept: the document's scan; finding one; what stays so of a disk's sectors. -/
namespace Go.Proofs.YtlgopekjjkdkiaaGreatDoor.X
open Go Go.Proofs.YtlgopekjjkdkiaaGreatDoor.Ev
set_option linter.unusedSectionVars false
variable [FZ]
set_option linter.unusedVariables false
set_option linter.unusedSimpArgs false

theorem numR {β : Type} {w k : Nat} {l : List Int} {K : Int → Int → Int → Option β} (h1 : 1 ≤ w) (hw : w ≤ 8) (h : k + w ≤ l.length) (hl : l.length ≤ 100) (hb : byts l) :
    f184_1 20000 (w : Int) (k : Int) 0 l K = K (num 0 ((l.drop k).take w)) ((k + w : Nat) : Int) 0 := by
  rw [f184_1, show ((0 : Int) != 0) = false from rfl, cond_false]
  refine (getR h1 hw (by omega) (by omega) hb).trans ?_
  rw [gt, if_pos h]
  show cond ((0 : Int) == 0) _ _ = _
  rw [beq_self_eq_true, cond_true, w64 (by omega) (by omega)]
  rfl

structure SZ (l : List ByteArray) (w : WL) : Prop where
  l64 : ∀ s ∈ l, s.size = 64
  w64 : ∀ p ∈ w, p.2.size = 64

theorem last_sz {x : Int} : ∀ (w : WL) (s : ByteArray), (∀ p ∈ w, p.2.size = 64) → s.size ≤ 100 → (last x s w).size ≤ 100
  | [], s, _, hs => hs
  | p :: r, s, h, hs => by
    rw [last, List.foldl_cons, ← last]
    refine last_sz r _ (fun q hq => h q (by simp [hq])) ?_
    split
    · have := h p (by simp); omega
    · exact hs

theorem SZ.rd {l : List ByteArray} {w : WL} (h : SZ l w) (b : Bool) (x : Int) : (X.rd x b l w).1.size ≤ 100 := by
  unfold X.rd
  split
  · show ByteArray.empty.size ≤ 100; decide
  · show (if 0 ≤ x ∧ x < (l.length : Int) then _ else ByteArray.empty).size ≤ 100
    split
    · rename_i hx
      refine last_sz w _ h.w64 ?_
      have : l.getD x.toNat ByteArray.empty ∈ l := by
        have hlt : x.toNat < l.length := by omega
        rw [List.getD_eq_getElem?_getD, List.getElem?_eq_getElem hlt]
        exact List.getElem_mem hlt
      have := h.l64 _ this
      omega
    · show ByteArray.empty.size ≤ 100; decide

theorem SZ.put {l : List ByteArray} {w : WL} (h : SZ l w) {p : Int × ByteArray} (hp : p.2.size = 64) : SZ (put1 l p) w :=
  ⟨fun s hs => by
    rcases List.mem_or_eq_of_mem_set hs with hs | hs
    · exact h.l64 s hs
    · rw [hs]; exact hp, h.w64⟩

theorem SZ.puts {w' : WL} : ∀ (w : WL) (l : List ByteArray), (∀ p ∈ w, p.2.size = 64) → SZ l w' → SZ (w.foldl put1 l) w'
  | [], l, _, h => h
  | p :: r, l, hw, h => SZ.puts r (put1 l p) (fun q hq => hw q (by simp [hq])) (h.put (hw p (by simp)))

theorem SZ.wS {x : Int} {t : ByteArray} {a d : Int} {b : Bool} {l : List ByteArray} {w : WL} (h : SZ l w) : SZ l (X.wS x t a b d l w).2.2.2.2 := by
  unfold X.wS
  split
  · exact h
  · split
    · exact h
    · split
      · exact h
      · rename_i h3
        split
        · exact h
        · refine ⟨h.l64, fun p hp => ?_⟩
          rcases List.mem_append.1 hp with hp | hp
          · exact h.w64 p hp
          · simp at hp; rw [hp]; exact Classical.not_not.1 h3

theorem SZ.fS {a d : Int} {b : Bool} {l : List ByteArray} {w : WL} (h : SZ l w) : SZ (X.fS a b d l w).2.2.2.2.1 (X.fS a b d l w).2.2.2.2.2 := by
  unfold X.fS
  split
  · exact h
  · split
    · exact h
    · exact ⟨(SZ.puts w l h.w64 h).l64, fun p hp => by cases hp⟩

theorem SZ.svS {x : Int} {t : ByteArray} {a d : Int} {b : Bool} {l : List ByteArray} {w : WL} (h : SZ l w) : SZ (X.svS x t a b d l w).2.2.2.2.1 (X.svS x t a b d l w).2.2.2.2.2 := by
  unfold X.svS
  split
  · exact h.wS
  · exact h.wS.fS

theorem SZ.crash {ks : List Bool} : ∀ (w : WL) (i : Nat) (l : List ByteArray), SZ l w → SZ (crB ks i w l) []
  | [], i, l, h => ⟨h.l64, fun p hp => by cases hp⟩
  | p :: r, i, l, h => by
    rw [crB]
    refine SZ.crash r (i + 1) _ ?_
    have h' : SZ l r := ⟨h.l64, fun q hq => h.w64 q (by simp [hq])⟩
    split
    · exact h'.put (h.w64 p (by simp))
    · exact h'

end Go.Proofs.YtlgopekjjkdkiaaGreatDoor.X
end

section
/- Sectors as they were: the document's. -/
namespace Go.Proofs.YtlgopekjjkdkiaaGreatDoor.X
open Go Go.Proofs.YtlgopekjjkdkiaaGreatDoor.Ev
set_option linter.unusedSectionVars false
variable [FZ]
set_option linter.unusedVariables false
set_option linter.unusedSimpArgs false

theorem mayR {β : Type} {n f c u p : Int} (hr : rt n f c u) {K : Bool → Option β} : f141_1 20000 n f c u p K = K (mayb n f c u p) := by
  have hn := hr.1
  have hno := nodes_ok n f c u
  rw [f141_1, mayb]
  by_cases h : p ≥ 6
  · rw [ct h, nodes51, w64 (x := 6 + n) (by omega) (by omega), w64 (by omega) (by omega)]
    congr 1
    exact decide_eq_decide.2 ⟨fun hh => ⟨h, hh⟩, fun hh => hh.2⟩
  · rw [cf h, decide_eq_false (fun hh => h hh.1)]

theorem headR7 {β : Type} {t e k p : Int} {old : ByteArray} (hk : U32 k) (hp : U32 p) (ho : old.size ≤ 100) {K : ByteArray → Option β} : f38_1 20000 7 (ofInts (b8 t) ++ ofInts (b8 e)) k p old K = K (uhB t e k p (crc (toInts old))) := by
  have s8 : ∀ n, (ofInts (b8 n)).size = 8 := fun n => by rw [oi_size]; rfl
  have s4 : ∀ n, (ofInts (b4 n)).size = 4 := fun n => by rw [oi_size]; rfl
  have hcr := crc_r (toInts old)
  have htl := toInts_size old
  have hbig := big60
  have he : ofInts (b8 t) ++ ofInts (b8 e) ++ ofInts (b4 k) ++ ofInts (b4 p) ++ ofInts (b4 (crc (toInts old))) = ofInts (uhL t e k p (crc (toInts old))) := by
    simp only [uhL, oiA]
    apply extB
    simp only [D_app, List.append_assoc]
  have hmk : mkR 7 (ofInts (uhL t e k p (crc (toInts old)))) = (uhB t e k p (crc (toInts old)), 0) := by rw [mkR, if_neg (by omega), if_neg (by rw [oi_size, uhL_len]; omega)]; rfl
  rw [f38_1, wu64 (x := k) (by omega) (by omega), text4, ct (by simp only [app_size, s8, s4]; omega), wu64 (x := p) (by omega) (by omega), text4, ct (by simp only [app_size, s8, s4]; omega), crcR (by omega), wu64 (x := crc _) (by omega) (by omega), text4, ct (by simp only [app_size, s8, s4]; omega), he, makeR (by rw [oi_size, uhL_len]; omega), hmk]

theorem layR7 {β : Type} {m q : Nat} {n f c u k a d : Int} {b : Bool} {l : List ByteArray} {w : WL} {hd old : ByteArray} (h : DS m q a d l w) (hq : q < 5990) (hr : rt n f c u) (hk : 0 ≤ k ∧ k < u) {K : Int → Int → Bool → Int → List ByteArray → WL → Option β} :
    f137_1 20000 n f c u 1 k hd old a b d l w K =
      if (svS (6 + n + nodes n f c u + (2 * k + 1)) old a b d l w).1 ≠ 0 then app K (svS (6 + n + nodes n f c u + (2 * k + 1)) old a b d l w)
      else app K (svS (6 + n + nodes n f c u + 2 * k) hd (svS (6 + n + nodes n f c u + (2 * k + 1)) old a b d l w).2.1 (svS (6 + n + nodes n f c u + (2 * k + 1)) old a b d l w).2.2.1 (svS (6 + n + nodes n f c u + (2 * k + 1)) old a b d l w).2.2.2.1 (svS (6 + n + nodes n f c u + (2 * k + 1)) old a b d l w).2.2.2.2.1 (svS (6 + n + nodes n f c u + (2 * k + 1)) old a b d l w).2.2.2.2.2) := by
  have hu := hr.2.2.2
  rw [f137_1, areaR (.inr rfl), if_neg (by omega), are, w64 (x := 2 * k) (by omega) (by omega), w64 (x := 2 * k + 1) (by omega) (by omega), if_pos (show rt n f c u ∧ 0 ≤ 2 * k + 1 ∧ 2 * k + 1 < 2 * u from ⟨hr, by omega, by omega⟩)]
  have h' := svS_ok (x := 6 + n + nodes n f c u + (2 * k + 1)) (t := old) (b := b) h (by omega)
  refine (svS_R2 (K0 := K) (N := fun a b d l w => f138_1 20000 n f c u 1 (2 * k) (fun x13 => f74_1 20000 x13 hd a b d l w (fun x14 x15 x16 x17 x18 => cond (x14 != 0) (K x14 x15 x16 x17 l x18) (f143_1 20000 x15 x16 x17 l x18 (fun x19 x20 x21 x22 x23 x24 => K x19 x20 x21 x22 x23 x24))))) h (by omega)).trans ?_
  by_cases q1 : (svS (6 + n + nodes n f c u + (2 * k + 1)) old a b d l w).1 = 0
  · rw [if_neg (fun hh => hh q1), if_neg (fun hh => hh q1), areaR (.inr rfl), if_neg (by omega), are, if_pos (show rt n f c u ∧ 0 ≤ 2 * k ∧ 2 * k < 2 * u from ⟨hr, by omega, by omega⟩)]
    exact svS_R (K := K) h' (by omega)
  · rw [if_pos q1, if_pos q1]

theorem unR {β : Type} {m q : Nat} {n f c u k t e p a d : Int} {b : Bool} {l : List ByteArray} {w : WL} (h : DS m q a d l w) (hq : q < 5990) (h64 : (rd p b l w).1.size ≤ 100) {K : Int → Int → Int → ByteArray → Int → Int → Bool → Int → List ByteArray → WL → Option β} :
    f79_1 20000 n f c u k t e p a b d l w K = app10 K (unS n f c u k t e p a b d l w) := by
  rw [f79_1, right47, unS]
  by_cases hr : rt n f c u
  · have hn := hr.1
    have hu := hr.2.2.2
    have hno := nodes_ok n f c u
    have s8 : ∀ n, (ofInts (b8 n)).size = 8 := fun n => by rw [oi_size]; rfl
    rw [decide_eq_true hr, Bool.not_true, cond_false, if_neg (fun hh => hh hr)]
    by_cases h1 : k < 0
    · rw [ct h1, if_pos (Or.inl h1)]; rfl
    · by_cases h2 : k ≥ u
      · rw [cf h1, ct h2, if_pos (Or.inr h2)]; rfl
      · rw [cf h1, cf h2, if_neg (show ¬ (k < 0 ∨ k ≥ u) by omega), mayR hr]
        by_cases h3 : mayb n f c u p = true
        · have h3' : 6 ≤ p ∧ p < 6 + n + nodes n f c u := of_decide_eq_true h3
          rw [h3, Bool.not_true, cond_false, if_neg (show ¬ (true = false) by simp), readR (by omega) h]
          by_cases h4 : (rd p b l w).2 = 0
          · rw [bnf h4, cond_false, if_neg (fun hh => hh h4)]
            simp only [text8, s8, amb_self]
            rw [ct (by omega), headR7 (by omega) (by omega) h64, layR7 h (by omega) hr (by omega)]
            by_cases h5 : (svS (6 + n + nodes n f c u + (2 * k + 1)) (rd p b l w).1 a b d l w).1 = 0
            · rw [if_neg (fun hh => hh h5), if_neg (fun hh => hh h5), app]
              by_cases h6 : (svS (6 + n + nodes n f c u + 2 * k) (uhB t e k p (crc (toInts (rd p b l w).1))) (svS (6 + n + nodes n f c u + (2 * k + 1)) (rd p b l w).1 a b d l w).2.1 (svS (6 + n + nodes n f c u + (2 * k + 1)) (rd p b l w).1 a b d l w).2.2.1 (svS (6 + n + nodes n f c u + (2 * k + 1)) (rd p b l w).1 a b d l w).2.2.2.1 (svS (6 + n + nodes n f c u + (2 * k + 1)) (rd p b l w).1 a b d l w).2.2.2.2.1 (svS (6 + n + nodes n f c u + (2 * k + 1)) (rd p b l w).1 a b d l w).2.2.2.2.2).1 = 0
              · rw [bnf h6, cond_false]
                show _ = app10 K (if _ then _ else _)
                rw [if_neg (fun hh => hh h6), app10]
                simp only
                rw [h6]
              · rw [bnt h6, cond_true]
                show _ = app10 K (if _ then _ else _)
                rw [if_pos h6]; rfl
            · rw [if_pos h5, if_pos h5, app, bnt h5, cond_true]; rfl
          · rw [bnt h4, cond_true, if_pos h4]; rfl
        · have h3 : mayb n f c u p = false := by simpa using h3
          rw [h3, Bool.not_false, cond_true, if_pos rfl]; rfl
  · rw [decide_eq_false hr, Bool.not_false, cond_true, if_pos hr]; rfl

theorem partR7 {β : Type} {s : ByteArray} {k : Int} (hk : U32 k) {K : ByteArray → Int → Int → Bool → Option β} :
    f139_1 20000 s 7 16 k K = if isU s ∧ h3 (toInts (opn 7 s).1) = k then K ((opn 7 s).1.extract 0 16) (h4 (toInts (opn 7 s).1)) (h5 (toInts (opn 7 s).1)) true else K ByteArray.empty 0 0 false := by
  have hos := opn_size 7 s
  have hb := toInts_r (opn 7 s).1
  have htl := toInts_size (opn 7 s).1
  rw [f139_1, openR]
  by_cases q1 : (opn 7 s).2 = 0
  · rw [bnf q1, cond_false, w64 (x := (16 : Int) + 12) (by omega) (by omega)]
    by_cases q2 : (opn 7 s).1.size = 28
    · have hH : isU s := ⟨q1, q2⟩
      have e4 : ((opn 7 s).1.extract 16 20).size = 4 := by rw [D_size, D_ext, List.length_take, List.length_drop, ← D_size]; omega
      have t4 : toInts ((opn 7 s).1.extract 16 20) = ((toInts (opn 7 s).1).drop 16).take 4 := toInts_ext _ 16 20
      have g3 : h3 (toInts (opn 7 s).1) = num 0 (toInts ((opn 7 s).1.extract 16 20)) := by rw [t4, h3, List.drop_drop]
      rw [bnf (by omega), cond_false, w64 (x := (16 : Int) + 4) (by omega) (by omega), ct ⟨by omega, by omega, by omega⟩, wu64 (x := k) (by omega) (by omega), text4]
      show cond (!(((opn 7 s).1.extract 16 20).toList == (ofInts (b4 k)).toList)) _ _ = _
      rw [beqB]
      by_cases q3 : h3 (toInts (opn 7 s).1) = k
      · have q3' : (opn 7 s).1.extract 16 20 = ofInts (b4 k) := (is4 e4 hk).2 (by rw [← g3]; exact q3)
        have tx : toInts ((opn 7 s).1.extract 20 28) = ((toInts (opn 7 s).1).drop 20).take 8 := toInts_ext _ 20 28
        have hl8 : (toInts ((opn 7 s).1.extract 20 28)).length = 8 := by rw [tx]; simp; omega
        have hb8 : byts (toInts ((opn 7 s).1.extract 20 28)) := toInts_r _
        obtain ⟨r1, r2, r3, r4, r5⟩ := h_r hb (by omega)
        rw [if_pos ⟨hH, q3⟩, decide_eq_true q3', Bool.not_true, cond_false, ct ⟨by omega, by omega, by omega⟩]
        have es : ((opn 7 s).1.size : Int).toNat = 28 := by omega
        rw [es]
        show f184_1 20000 4 0 0 (toInts ((opn 7 s).1.extract 20 28)) _ = _
        refine (numR (w := 4) (k := 0) (by omega) (by omega) (by omega) (by omega) hb8).trans ?_
        rw [ct ⟨by omega, by omega, by omega⟩]
        refine (numR (w := 4) (k := 4) (by omega) (by omega) (by omega) (by omega) hb8).trans ?_
        have e3 : num 0 (((toInts ((opn 7 s).1.extract 20 28)).drop 0).take 4) = h4 (toInts (opn 7 s).1) := by
          rw [tx, List.drop_zero, List.take_take, h4, List.drop_drop, List.drop_drop]; rfl
        have e5 : num 0 (((toInts ((opn 7 s).1.extract 20 28)).drop 4).take 4) = h5 (toInts (opn 7 s).1) := by
          rw [tx, List.drop_take, List.take_take, List.drop_drop, h5, List.drop_drop, List.drop_drop, List.drop_drop]; rfl
        rw [e3, e5, w64 (x := h4 _) (by omega) (by omega), wu32 r5.1 r5.2]
        rfl
      · have q3' : ¬ (opn 7 s).1.extract 16 20 = ofInts (b4 k) := fun hh => q3 (by rw [g3]; exact (is4 e4 hk).1 hh)
        rw [if_neg (fun hh => q3 hh.2), decide_eq_false q3', Bool.not_false, cond_true]
    · rw [bnt (by omega), cond_true, if_neg (fun hh => q2 hh.1.2)]
  · rw [bnt q1, cond_true, if_neg (fun hh => q1 hh.1.1)]

theorem uscRL {β : Type} {q p : Nat} {n f c u e a d : Int} {b : Bool} {l : List ByteArray} {w : WL} (hr : rt n f c u) (h : DS q p a d l w) (hsz : ∀ x, (rd x b l w).1.size ≤ 100) {K : Int → EL → Option β} :
    ∀ (m k fuel : Nat) (out : EL), ((m + k : Nat) : Int) = u → m < fuel → out.length = k →
    f80_1_l5 20000 e a b d l w n f c u (fun x34 x35 => K x34 []) (fun x36 => K 0 x36) (fun x37 x38 x39 => K 0 x37) (fun x40 x41 x42 x43 => K x40 []) (fun x44 x45 x46 x47 => K 0 x44) (fun x48 => K 0 x48) fuel (k : Int) out =
      K (usc n f c u e b l w m k out).1 (usc n f c u e b l w m k out).2
  | _, _, 0, _, _, h, _ => by omega
  | 0, k, fuel + 1, out, hm, _, _ => by
    rw [f80_1_l5, cf (by omega)]; rfl
  | m + 1, k, fuel + 1, out, hm, hf, ho => by
    have hn := hr.1
    have hu := hr.2.2.2
    have hno := nodes_ok n f c u
    rw [f80_1_l5, ct (by omega), w64 (x := 2 * (k : Int)) (by omega) (by omega), areaR (.inr rfl), if_neg (by omega), are, if_pos (show rt n f c u ∧ 0 ≤ 2 * (k : Int) ∧ 2 * (k : Int) < 2 * u from ⟨hr, by omega, by omega⟩), readR (by omega) h, usc]
    generalize rd (6 + n + nodes n f c u + 2 * (k : Int)) b l w = s1
    have hsz2 := hsz (6 + n + nodes n f c u + (2 * (k : Int) + 1))
    have hrd : ∀ K : ByteArray → Int → Option β, f138_1 20000 n f c u 1 (2 * (k : Int) + 1) (fun x => f124_1 20000 x a b d l w K) = K (rd (6 + n + nodes n f c u + (2 * (k : Int) + 1)) b l w).1 (rd (6 + n + nodes n f c u + (2 * (k : Int) + 1)) b l w).2 := fun K => by
      rw [areaR (.inr rfl), if_neg (by omega), are, if_pos (show rt n f c u ∧ 0 ≤ 2 * (k : Int) + 1 ∧ 2 * (k : Int) + 1 < 2 * u from ⟨hr, by omega, by omega⟩), readR (by omega) h]
    generalize rd (6 + n + nodes n f c u + (2 * (k : Int) + 1)) b l w = s2 at hsz2 hrd
    by_cases q1 : s1.2 = 0
    · rw [bnf q1, cond_false, if_neg (fun hh => hh q1), partR7 (by omega)]
      by_cases q2 : isU s1.1 ∧ h3 (toInts (opn 7 s1.1).1) = (k : Int)
      · have hL : (toInts (opn 7 s1.1).1).length = 28 := by rw [toInts_size]; exact q2.1.2
        obtain ⟨r1, r2, r3, r4, r5⟩ := h_r (toInts_r (opn 7 s1.1).1) hL
        have t16 : toInts ((opn 7 s1.1).1.extract 0 16) = (toInts (opn 7 s1.1).1).take 16 := by rw [toInts_ext, List.drop_zero]
        have b16 : byts (toInts ((opn 7 s1.1).1.extract 0 16)) := toInts_r _
        have l16 : (toInts ((opn 7 s1.1).1.extract 0 16)).length = 16 := by rw [t16, List.length_take]; omega
        rw [if_pos q2, Bool.not_true, cond_false, mayR hr]
        by_cases q3 : mayb n f c u (h4 (toInts (opn 7 s1.1).1)) = true
        · have g1 : ∀ K : Int → Int → Option β, f142_1 20000 0 8 (toInts ((opn 7 s1.1).1.extract 0 16)) K = K (h1 (toInts (opn 7 s1.1).1)) 0 := fun K => by
            refine (getR (at_ := 0) (w := 8) (by omega) (by omega) (by omega) (by omega) b16).trans ?_
            rw [gt, if_pos (by omega), t16, List.drop_zero, List.take_take]; rfl
          have g2 : ∀ K : Int → Int → Option β, f142_1 20000 8 8 (toInts ((opn 7 s1.1).1.extract 0 16)) K = K (h2 (toInts (opn 7 s1.1).1)) 0 := fun K => by
            refine (getR (at_ := 8) (w := 8) (by omega) (by omega) (by omega) (by omega) b16).trans ?_
            rw [gt, if_pos (by omega), t16, List.drop_take, List.take_take]; rfl
          rw [q3, Bool.not_true, cond_false, g1, g2]
          -- what comes where the entry is one of the try
          have fin : okU n f c u e k s1.1 (out.getD 0 E0).1 (out.getD 0 E0).2.1 →
              f138_1 20000 n f c u 1 (IntKind.i64.wrap (2 * (k : Int) + 1)) (fun x30 => f124_1 20000 x30 a b d l w (fun x31 x32 => cond (x32 != 0) (K x32 []) (f102_1 20000 (toInts x31) (fun x33 => cond (x33 != h5 (toInts (opn 7 s1.1).1)) (K 0 out) (cond (decide ((out.length + 1) * 40 ≤ 70368744177664)) (f80_1_l5 20000 e a b d l w n f c u (fun x34 x35 => K x34 []) (fun x36 => K 0 x36) (fun x37 x38 x39 => K 0 x37) (fun x40 x41 x42 x43 => K x40 []) (fun x44 x45 x46 x47 => K 0 x44) (fun x48 => K 0 x48) fuel (IntKind.i64.wrap ((k : Int) + 1)) (out ++ [(h1 (toInts (opn 7 s1.1).1), (h2 (toInts (opn 7 s1.1).1), (h4 (toInts (opn 7 s1.1).1), x31)))])) none))))) =
              K (if ¬ okU n f c u e k s1.1 (out.getD 0 E0).1 (out.getD 0 E0).2.1 then (0, out) else if s2.2 ≠ 0 then (s2.2, []) else if crc (toInts s2.1) ≠ h5 (toInts (opn 7 s1.1).1) then (0, out) else usc n f c u e b l w m (k + 1) (out ++ [(h1 (toInts (opn 7 s1.1).1), (h2 (toInts (opn 7 s1.1).1), (h4 (toInts (opn 7 s1.1).1), s2.1)))])).1
                (if ¬ okU n f c u e k s1.1 (out.getD 0 E0).1 (out.getD 0 E0).2.1 then (0, out) else if s2.2 ≠ 0 then (s2.2, []) else if crc (toInts s2.1) ≠ h5 (toInts (opn 7 s1.1).1) then (0, out) else usc n f c u e b l w m (k + 1) (out ++ [(h1 (toInts (opn 7 s1.1).1), (h2 (toInts (opn 7 s1.1).1), (h4 (toInts (opn 7 s1.1).1), s2.1)))])).2 := by
            intro hok
            rw [if_neg (fun hh => hh hok), w64 (x := 2 * (k : Int) + 1) (by omega) (by omega), hrd]
            by_cases q6 : s2.2 = 0
            · have htl := toInts_size s2.1
              rw [bnf q6, cond_false, if_neg (fun hh => hh q6), crcR (by omega)]
              by_cases q7 : crc (toInts s2.1) = h5 (toInts (opn 7 s1.1).1)
              · rw [bnf q7, cond_false, if_neg (fun hh => hh q7), ct (by omega), w64 (x := (k : Int) + 1) (by omega) (by omega)]
                have ih := uscRL hr h hsz (e := e) (K := K) m (k + 1) fuel (out ++ [(h1 (toInts (opn 7 s1.1).1), (h2 (toInts (opn 7 s1.1).1), (h4 (toInts (opn 7 s1.1).1), s2.1)))]) (by omega) (by omega) (by simp; omega)
                push_cast at ih
                exact ih
              · rw [bnt q7, cond_true, if_pos q7]
            · rw [bnt q6, cond_true, if_pos q6]
          by_cases q4 : h2 (toInts (opn 7 s1.1).1) ≤ e
          · rw [ct q4, if_pos (fun hh => by have := hh.2.2.2.1; omega)]
          · rw [cf q4]
            by_cases q5 : 0 < out.length
            · rw [ct (by omega), ct (by omega), ct q5]
              by_cases q6 : (out.getD 0 E0).2.1 = h2 (toInts (opn 7 s1.1).1)
              · rw [bnf q6, cond_false, ct (by omega), ct q5]
                by_cases q7 : (out.getD 0 E0).1 = h1 (toInts (opn 7 s1.1).1)
                · rw [bnf q7, cond_false]
                  exact fin ⟨q2.1, q2.2, q3, by omega, fun _ => ⟨q7.symm, q6.symm⟩⟩
                · rw [bnt q7, cond_true, if_pos (fun hh => q7 (hh.2.2.2.2 (by omega)).1.symm)]
              · rw [bnt q6, cond_true, if_pos (fun hh => q6 (hh.2.2.2.2 (by omega)).2.symm)]
            · rw [cf (by omega)]
              exact fin ⟨q2.1, q2.2, q3, by omega, fun hh => by omega⟩
        · have q3' : mayb n f c u (h4 (toInts (opn 7 s1.1).1)) = false := by simpa using q3
          rw [q3', Bool.not_false, cond_true, if_pos (fun hh => q3 hh.2.2.1)]
      · rw [if_neg q2, Bool.not_false, cond_true, if_pos (fun hh => q2 ⟨hh.1, hh.2.1⟩)]
    · rw [bnt q1, cond_true, if_pos q1]

theorem usGR {β : Type} {q p : Nat} {n f c u e a d : Int} {b : Bool} {l : List ByteArray} {w : WL} (h : DS q p a d l w) (hsz : ∀ x, (rd x b l w).1.size ≤ 100) {K : Int → EL → Option β} :
    f80_1 20000 n f c u e a b d l w K = K (usG n f c u e b l w).1 (usG n f c u e b l w).2 := by
  rw [f80_1, right47, usG]
  by_cases hr : rt n f c u
  · have hu := hr.2.2.2
    rw [decide_eq_true hr, Bool.not_true, cond_false, if_pos hr]
    exact uscRL hr h hsz u.toNat 0 20000 [] (by omega) (by omega) rfl
  · rw [decide_eq_false hr, Bool.not_false, cond_true, if_neg hr]

theorem clR {β : Type} {m q : Nat} {n f c u a d : Int} {b : Bool} {l : List ByteArray} {w : WL} (h : DS m q a d l w) (hq : q < 5990) {K : Int → Int → Bool → Int → List ByteArray → WL → Option β} :
    f82_1 20000 n f c u a b d l w K = app K (clS n f c u a b d l w) := by
  rw [f82_1, right47, clS]
  by_cases hr : rt n f c u
  · have hu := hr.2.2.2
    rw [decide_eq_true hr, Bool.not_true, cond_false, if_pos hr, areaR (.inr rfl), if_neg (by omega), are, if_pos (show rt n f c u ∧ (0 : Int) ≤ 0 ∧ (0 : Int) < 2 * u from ⟨hr, by omega, by omega⟩), zero64, Int.add_zero]
    exact svS_R (K := K) h (by omega)
  · rw [decide_eq_false hr, Bool.not_false, cond_true, if_neg hr]; rfl

/-! ### What stays so -/

theorem unS_ok {m q : Nat} {n f c u k t e p a d : Int} {b : Bool} {l : List ByteArray} {w : WL} (h : DS m q a d l w) (hq : q < 5990) (hz : SZ l w) :
    DS m (q + 4) (unS n f c u k t e p a b d l w).2.2.2.2.2.1 (unS n f c u k t e p a b d l w).2.2.2.2.2.2.2.1 (unS n f c u k t e p a b d l w).2.2.2.2.2.2.2.2.1 (unS n f c u k t e p a b d l w).2.2.2.2.2.2.2.2.2 ∧
    SZ (unS n f c u k t e p a b d l w).2.2.2.2.2.2.2.2.1 (unS n f c u k t e p a b d l w).2.2.2.2.2.2.2.2.2 := by
  have h4 : DS m (q + 4) a d l w := (((h.more (by omega)).more (by omega)).more (by omega)).more (by omega)
  unfold unS
  split
  · exact ⟨h4, hz⟩
  · split
    · exact ⟨h4, hz⟩
    · split
      · exact ⟨h4, hz⟩
      · split
        · exact ⟨h4, hz⟩
        · have h1 := svS_ok (x := 6 + n + nodes n f c u + (2 * k + 1)) (t := (rd p b l w).1) (b := b) h (by omega)
          have z1 := hz.svS (x := 6 + n + nodes n f c u + (2 * k + 1)) (t := (rd p b l w).1) (a := a) (b := b) (d := d)
          split
          · exact ⟨(h1.more (by omega)).more (by omega), z1⟩
          · have h2 := svS_ok (x := 6 + n + nodes n f c u + 2 * k) (t := uhB t e k p (crc (toInts (rd p b l w).1))) (b := (svS (6 + n + nodes n f c u + (2 * k + 1)) (rd p b l w).1 a b d l w).2.2.1) h1 (by omega)
            have z2 := z1.svS (x := 6 + n + nodes n f c u + 2 * k) (t := uhB t e k p (crc (toInts (rd p b l w).1))) (a := (svS (6 + n + nodes n f c u + (2 * k + 1)) (rd p b l w).1 a b d l w).2.1) (b := (svS (6 + n + nodes n f c u + (2 * k + 1)) (rd p b l w).1 a b d l w).2.2.1) (d := (svS (6 + n + nodes n f c u + (2 * k + 1)) (rd p b l w).1 a b d l w).2.2.2.1)
            simp only
            split
            · exact ⟨h2, z2⟩
            · exact ⟨h2, z2⟩

theorem clS_ok {m q : Nat} {n f c u a d : Int} {b : Bool} {l : List ByteArray} {w : WL} (h : DS m q a d l w) (hq : q < 5990) (hz : SZ l w) :
    DS m (q + 4) (clS n f c u a b d l w).2.1 (clS n f c u a b d l w).2.2.2.1 (clS n f c u a b d l w).2.2.2.2.1 (clS n f c u a b d l w).2.2.2.2.2 ∧ SZ (clS n f c u a b d l w).2.2.2.2.1 (clS n f c u a b d l w).2.2.2.2.2 := by
  have h4 : DS m (q + 4) a d l w := (((h.more (by omega)).more (by omega)).more (by omega)).more (by omega)
  unfold clS
  split
  · exact ⟨((svS_ok h (by omega)).more (by omega)).more (by omega), hz.svS⟩
  · exact ⟨h4, hz⟩

end Go.Proofs.YtlgopekjjkdkiaaGreatDoor.X
end

section
/- A disk: lists of writes. -/
namespace Go.Proofs.YtlgopekjjkdkiaaGreatDoor.X
open Go Go.Proofs.YtlgopekjjkdkiaaGreatDoor.Ev
set_option linter.unusedSectionVars false
variable [FZ]
set_option linter.unusedVariables false
set_option linter.unusedSimpArgs false

/-! ### Lists of writes -/

theorem cloneW {β : Type} {F : Nat} {w : WL} (hw : w.length ≤ 6000) {K : WL → Option β} : f78_1 F w K = K w := by
  rw [f78_1, ct (show (0 + w.length) * 24 ≤ 70368744177664 by omega), List.nil_append]
  by_cases h : 0 < w.length
  · rw [ct h]
  · have : w = [] := List.length_eq_zero_iff.1 (by omega)
    rw [cf h]; subst this; exact amb_self _

theorem putsl {β : Type} {F : Nat} {w : WL} (hw : w.length ≤ 6000) {K0 K1 : Option β} : ∀ (r : WL) (i k : Nat), w.drop i = r → i ≤ w.length → r.length < k → f17_1_l4 F w w K0 K1 k (i : Int) = K1
  | [], i, 0, _, _, hk => by simp at hk
  | _ :: _, i, 0, _, _, hk => by simp at hk
  | [], i, k + 1, hd, hi, _ => by
    have := len_of_drop_nil hd hi
    rw [f17_1_l4, cf (by omega)]
  | p :: r, i, k + 1, hd, hi, hk => by
    obtain ⟨h1, h2, h3⟩ := getD_of_drop (d := ((0, ByteArray.empty) : Int × ByteArray)) hd
    rw [f17_1_l4, ct (by omega), ct (by omega), ct (by omega), ct (by omega), ct (by omega), show ∀ p : Int × ByteArray, (!(p.1 == p.1 && p.2.toList == p.2.toList)) = false from fun p => by simp, cond_false, w64 (by omega) (by omega)]
    exact putsl hw r (i + 1) k h3 (by omega) (by simp at hk; omega)

end Go.Proofs.YtlgopekjjkdkiaaGreatDoor.X
end

section
/- Disks that are played with: the document's new disk, what both hold at the end. -/
namespace Go.Proofs.YtlgopekjjkdkiaaGreatDoor.X
open Go Go.Proofs.YtlgopekjjkdkiaaGreatDoor.Ev
set_option linter.unusedSectionVars false
variable [FZ]
set_option linter.unusedVariables false
set_option linter.unusedSimpArgs false

theorem newRl {β : Type} {n : Nat} (hn : n ≤ 1200) {a c : Int} {b : Bool} {w : WL} {K : List ByteArray → Option β} : ∀ (j i f : Nat), j + i = n → j < f → f13_1_l5 20000 (n : Int) a b c w K f (i : Int) (List.replicate i Z64) = K (List.replicate n Z64)
  | _, _, 0, _, hf => by omega
  | 0, i, f + 1, hi, _ => by rw [f13_1_l5, cf (by omega), show i = n by omega]
  | j + 1, i, f + 1, hi, hf => by
    rw [f13_1_l5, ct (by omega), zero64, ct (by simp; omega), w64 (by omega) (by omega), show List.replicate i Z64 ++ [Z64] = List.replicate (i + 1) Z64 from List.replicate_succ'.symm]
    exact newRl hn j (i + 1) f (by omega) (by omega)

theorem newR {β : Type} {m : Nat} (h1 : 1 ≤ m) (h2 : m ≤ 1200) {K0 : Option β} {K1 : List ByteArray → WL → Option β} : f13_1 20000 (m : Int) K0 K1 = K1 (List.replicate m Z64) [] := by
  rw [f13_1, cf (by omega), cf (by omega)]
  exact newRl (by omega) m 0 20000 (by omega) (by omega)

theorem DS.new {m : Nat} (h2 : m ≤ 1200) : DS m 0 (-1) 0 (List.replicate m Z64) [] :=
  ⟨by omega, by omega, by simp, by simp, fun p hp => (by cases hp), by omega, by omega⟩

theorem waitsEq {β : Type} {w : WL} {a d : Int} {b : Bool} {l : List ByteArray} (hw : w.length ≤ 6000) {K : Bool → Option β} : f18_1 20000 a b d l w (fun x => f17_1 20000 x w (fun y => K y)) = K true := by
  rw [f18_1, cloneW hw, f17_1, show ∀ z : Int, (z != z) = false from fun z => by simp, cond_false]
  exact putsl hw w 0 20000 rfl (by omega) (by omega)

theorem DS.more4 {m k : Nat} {a d : Int} {l : List ByteArray} {w : WL} (h : DS m k a d l w) (hk : k < 5990) : DS m (k + 4) a d l w := (((h.more (by omega)).more (by omega)).more (by omega)).more (by omega)
theorem DS.more3 {m k : Nat} {a d : Int} {l : List ByteArray} {w : WL} (h : DS m (k + 1) a d l w) (hk : k < 5990) : DS m (k + 4) a d l w := ((h.more (by omega)).more (by omega)).more (by omega)
end Go.Proofs.YtlgopekjjkdkiaaGreatDoor.X
end

section
/- The law: sectors as they were, played. -/
namespace Go.Proofs.YtlgopekjjkdkiaaGreatDoor.X
open Go Go.Proofs.YtlgopekjjkdkiaaGreatDoor.Ev
set_option linter.unusedSectionVars false
variable [FZ]
set_option linter.unusedVariables false
set_option linter.unusedSimpArgs false

set_option maxRecDepth 100000 in
theorem known15 {β : Type} {K : Bool → Option β} : f19_1 20000 K = K true := by kernel_rfl

theorem amb3 {β : Type} {x : Option β} : (fun z1 : Option β => amb z1 (amb (amb z1 z1) (amb z1 z1))) x = x := by
  show amb x (amb (amb x x) (amb x x)) = x
  rw [amb_self, amb_self, amb_self]

abbrev ActU := Int × (Int × (Int × (Int × (Int × (ByteArray × (Sl .bool))))))

theorem doU {β : Type} {m q : Nat} {a d n f c u kd kk tg e p : Int} {b : Bool} {l : List ByteArray} {w : WL} {t : ByteArray} {ks : Sl .bool} (h : DS m q a d l w) (hq : q < 280) (hz : SZ l w) (hk : kk ≤ 9223372036854775807)
    {K : Bool → Int → Bool → Int → List ByteArray → Int → Bool → Int → List ByteArray → WL → WL → Option β} {r : Option β}
    (hK : ∀ a' b' d' l' w', DS m (q + 4) a' d' l' w' → SZ l' w' → K true a' b' d' l' a' b' d' l' w' w' = r) :
    f20_1 20000 n f c u kd kk tg e p t ks a b d l w a b d l w K = r := by
  have hself : ∀ z : Int, (z == z) = true := fun z => by simp
  have e2 : ∀ s : ByteArray, (s.toList == s.toList) = true := fun s => by simp
  rw [f20_1]
  cases (kd.tmod 6 == 0) with
  | true =>
    obtain ⟨o1, o2⟩ := unS_ok (n := n) (f := f) (c := c) (u := u) (k := kk) (t := tg) (e := e) (p := p) (b := b) h (by omega) hz
    rw [cond_true, unP h (by omega) (hz.rd _ _), app10, unR h (by omega) (hz.rd _ _), app10, hself, hself, hself, e2, hself]
    exact hK _ _ _ _ _ o1 o2
  | false =>
    rw [cond_false]
    cases (kd.tmod 6 == 1) with
    | true =>
      have hl := usG_len n f c u e b l w
      rw [cond_true, usGP h (hz.rd _), usGR h (hz.rd _), entP (by omega), cond_true, hself]
      exact hK _ _ _ _ _ (h.more4 (by omega)) hz
    | false =>
      rw [cond_false]
      cases (kd.tmod 6 == 2) with
      | true =>
        obtain ⟨o1, o2⟩ := clS_ok (n := n) (f := f) (c := c) (u := u) (b := b) h (by omega) hz
        rw [cond_true, show ∀ x : Option β, (fun z1 : Option β => amb z1 z1) x = x from fun x => amb_self x, clP h (by omega), app, clR h (by omega), app, hself]
        exact hK _ _ _ _ _ o1 o2
      | false =>
        rw [cond_false]
        cases (kd.tmod 6 == 3) with
        | true =>
          rw [cond_true, amb3, writeP h, writeR h, hself]
          exact hK _ _ _ _ _ ((wS_ok h (by omega)).more3 (by omega)) hz.wS
        | false =>
          rw [cond_false]
          cases (kd.tmod 6 == 4) with
          | true =>
            rw [cond_true, f29_1, f75_1]
            exact hK _ _ _ _ _ ((h.fuse (by omega) hk).more3 (by omega)) hz
          | false =>
            rw [cond_false, crashP (by omega) h, crashR (by omega) h, f33_1, Bool.not_true, cond_false, f76_1, Bool.not_true, cond_false]
            exact hK _ _ _ _ _ ((h.crashed (by omega) ks.dat).more3 (by omega)) (SZ.crash w 0 l hz)

def CWf (l : List ActU) : Prop := ∀ x ∈ l, x.2.1 ≤ 9223372036854775807

theorem playl {β : Type} {m : Nat} {n f c u z : Int} {acts : List ActU} (ha : acts.length ≤ 40) (hw : CWf acts) {K0 K1 K2} {r0 : Option β} (h0 : ∀ a b d l w a' b' d' l' w', K0 true a b d l w a' b' d' l' w' = r0) (h2 : ∀ a b d l w, DS m 160 a d l w → K2 a b d l w a b d l w = r0) : ∀ (r : List ActU) (i k : Nat) {a d : Int} {b : Bool} {l : List ByteArray} {w : WL}, acts.drop i = r → i ≤ acts.length → r.length < k → DS m (4 * i) a d l w → SZ l w →
    f4_1_l6_4 20000 z acts n f c u K0 K1 K2 k (i : Int) a b d l w a b d l w = r0
  | [], i, 0, _, _, _, _, _, _, _, hk, _, _ => by simp at hk
  | _ :: _, i, 0, _, _, _, _, _, _, _, hk, _, _ => by simp at hk
  | [], i, k + 1, a, d, b, l, w, hd, hi, _, h, _ => by
    have := len_of_drop_nil hd hi
    rw [f4_1_l6_4, cf (by omega)]
    refine h2 _ _ _ _ _ ⟨h.n40, by omega, h.len, ?_, h.wb, h.ar, ?_⟩
    · have := h.wl; omega
    · have := h.cr; omega
  | p :: r, i, k + 1, a, d, b, l, w, hd, hi, hk, h, hz => by
    obtain ⟨h1, h2', h3⟩ := getD_of_drop (d := ((0, (0, (0, (0, (0, (ByteArray.empty, (Sl.nil .bool))))))) : ActU)) hd
    have hp := hw p (List.mem_of_mem_drop (by rw [hd]; simp))
    rw [f4_1_l6_4, ct (by omega), ct (by omega), ct (by omega), h2']
    by_cases hs : (p.2.2.2.2.2.1.size : Int) > 200
    · rw [ct hs, known15]; exact h0 _ _ _ _ _ _ _ _ _ _
    · rw [cf hs, ct (by omega), ct (by omega)]
      refine doU h (by omega) hz hp ?_
      intro a' b' d' l' w' hd' hz'
      rw [Bool.not_true, cond_false, w64 (by omega) (by omega)]
      exact playl ha hw h0 h2 r (i + 1) k h3 (by omega) (by simp at hk; omega) hd' hz'

theorem keptl {β : Type} {m : Nat} {acts : List ActU} {a d : Int} {b : Bool} {l : List ByteArray} {w : WL} (h : DS m 160 a d l w) {K0 K1 : Option β} : ∀ (j i f : Nat), j + i = m → j < f → f4_1_l13_4 20000 (m : Int) acts a b d l w a b d l w K0 K1 f (i : Int) = K1
  | _, _, 0, _, hf => by omega
  | 0, i, f + 1, hi, _ => by rw [f4_1_l13_4, cf (by omega)]
  | j + 1, i, f + 1, hi, hf => by
    have hl := h.len; have hn := h.n40
    rw [f4_1_l13_4, ct (by omega), keptP, ct (by omega), ct (by omega), kp, if_pos (by omega), Nat.zero_add]
    rw [show ∀ s : ByteArray, (!(s.toList == s.toList)) = false from fun s => by simp, cond_false, w64 (by omega) (by omega)]
    exact keptl h j (i + 1) f (by omega) (by omega)

theorem law_true {β : Type} (n f c u z : Int) (acts : List ActU) {q1 q2 q3 q4 q6 : Prop} (_ : q1) (_ : q2) (_ : q3) (_ : q4) (_ : (Lit.int .i64 z).wf = true) (_ : q6) (hw0 : ∀ x ∈ acts, (Lit.int .i64 x.1).wf = true ∧ (Lit.int .i64 x.2.1).wf = true ∧ (Lit.int .u64 x.2.2.1).wf = true ∧ (Lit.int .u64 x.2.2.2.1).wf = true ∧ (Lit.int .i64 x.2.2.2.2.1).wf = true ∧ x.2.2.2.2.2.1.size ≤ maxLen ∧ (x.2.2.2.2.2.2.dat.length ≤ maxLen ∧ ∀ y ∈ x.2.2.2.2.2.2.dat, wfS .bool y)) (r0 : β) :
    ∃ F, f4_1 F n f c u z acts (fun b => cond b (some r0) none) = some r0 := by
  refine ⟨20000, ?_⟩
  have hw : CWf acts := fun x hx => (i64_of_wf (hw0 x hx).2.1).2
  rw [f4_1]
  by_cases h1 : z < 1
  · rw [ct h1, known15]; rfl
  by_cases h2 : z > 120
  · rw [cf h1, ct h2, known15]; rfl
  by_cases h3 : ((acts.length : Nat) : Int) > 40
  · rw [cf h1, cf h2, ct h3, known15]; rfl
  obtain ⟨m, rfl⟩ : ∃ m : Nat, z = (m : Int) := ⟨z.toNat, by omega⟩
  rw [cf h1, cf h2, cf h3, newP (by omega) (by omega), newR (by omega) (by omega)]
  refine playl (m := m) (by omega) hw (fun _ _ _ _ _ _ _ _ _ _ => rfl) ?_ acts 0 20000 rfl (by omega) (by omega) (DS.new (by omega)) ⟨fun s hs => ?_, fun p hp => (by cases hp)⟩
  · intro a b d l w h
    have hwl := h.wl
    refine (keptl h m 0 20000 (by omega) (by omega)).trans ?_
    rw [f16_1, show (d == d) = true by simp, cond_true, waitsEq (by omega), cond_true, known15]; rfl
  · rw [List.eq_of_mem_replicate hs]; exact Z64_size

end Go.Proofs.YtlgopekjjkdkiaaGreatDoor.X
end
