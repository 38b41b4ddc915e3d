/- A region of open order that makes several variables at once: what is known whichever operations have come up. -/
import Derived.Test.YtlokielmpdjedaaEvS18
namespace Go.Proofs.Ytlokielmpdjedaa.Ev
open Go
set_option linter.unusedVariables false
variable {P : Program}

def unl (L : Array Bool) : Nat → Nat
  | 0 => 0
  | n + 1 => unl L n + (if L.getD n true = true then 0 else 1)

theorem unl_ne {L : Array Bool} {i : Nat} : ∀ n, n ≤ i → unl (L.setIfInBounds i true) n = unl L n
  | 0, _ => rfl
  | n + 1, h => by
    simp only [unl]
    rw [unl_ne n (by omega), getD_set_ne true (by omega)]

theorem unl_set {L : Array Bool} {i : Nat} (hi : L.getD i true = false) : ∀ n, i < n → unl (L.setIfInBounds i true) n + 1 = unl L n
  | 0, h => by omega
  | n + 1, h => by
    simp only [unl]
    by_cases hn : i = n
    · subst hn
      have h1 : (L.setIfInBounds i true).getD i true = true := by
        rcases Nat.lt_or_ge i L.size with h' | h'
        · simp [h']
        · simp [Array.getElem?_eq_none h'] at hi
      rw [unl_ne i (Nat.le_refl _), h1, hi]
      simp
    · have := unl_set hi n (by omega)
      rw [getD_set_ne true hn]
      omega

theorem unl_zero {L : Array Bool} : ∀ n, unl L n = 0 → ∀ j, j < n → L.getD j true = true
  | 0, _, j, h => by omega
  | n + 1, h0, j, h => by
    simp only [unl] at h0
    by_cases hj : j = n
    · subst hj
      cases hb : L.getD j true with
      | true => rfl
      | false => rw [hb] at h0; simp at h0
    · exact unl_zero n (by omega) j (by omega)

theorem unl_none : ∀ n m, n ≤ m → unl (Array.replicate m false) n = n
  | 0, _, _ => rfl
  | n + 1, m, h => by
    simp only [unl]
    rw [unl_none n m (by omega)]
    have : (Array.replicate m false).getD n true = false := by simp [show n < m by omega]
    rw [this]; simp

/-- Each edge that binds points back. -/
def backB (ops : Array Oper) : Bool := (List.range ops.size).all fun j => match ops[j]? with
  | some o => o.after.all fun e => !(Region.binds .any e) || decide (e.on < j)
  | none => true

theorem all_listed {ops : Array Oper} (hb : backB ops = true) {L : Array Bool} (hsz : L.size = ops.size) (hr : Region.ready .any ops L = []) : ∀ j, j < ops.size → L.getD j true = true := by
  intro j
  induction j using Nat.strongRecOn with
  | _ j ih =>
    intro hj
    cases hq : L.getD j true with
    | true => rfl
    | false =>
      exfalso
      obtain ⟨o, ho⟩ : ∃ o, ops[j]? = some o := ⟨_, Array.getElem?_eq_getElem hj⟩
      have : j ∈ Region.ready .any ops L := by
        refine mem_ready.2 ⟨hq, o, ho, fun e he hbe => ?_⟩
        have h1 := List.all_eq_true.1 hb j (List.mem_range.2 hj)
        simp only [ho] at h1
        have h2 := Array.all_eq_true'.1 h1 e he
        simp only [hbe, Bool.not_true, Bool.false_or, decide_eq_true_eq] at h2
        have h3 := ih e.on h2 (by omega)
        have : e.on < L.size := by omega
        simp [this] at h3 ⊢
        exact h3
      rw [hr] at this; cases this

/-- What holds whichever operations have come up. -/
theorem wpAny_inv {ops : Array Oper} {Q : Exit → Act → World → Prop} (Phi : Array Bool → Act → World → Prop) (hb : backB ops = true)
    (hstep : ∀ L a w i, L.size = ops.size → Phi L a w → i ∈ Region.ready .any ops L → wpOp P ops Q i (fun a' w' => Phi (L.setIfInBounds i true) a' w') a w)
    (hfin : ∀ L a w, L.size = ops.size → Phi L a w → (∀ j, j < ops.size → L.getD j true = true) → Q .normal a w) :
    ∀ fuel L a w, L.size = ops.size → unl L ops.size ≤ fuel → Phi L a w → wpAny P .any ops Q fuel L a w
  | 0, L, a, w, hsz, hu, hp => by
    have h0 := unl_zero _ (by omega : unl L ops.size = 0)
    refine ⟨?_, hfin L a w hsz hp h0⟩
    cases hr : Region.ready .any ops L with
    | nil => rfl
    | cons i r =>
      obtain ⟨h1, o, h2, _⟩ := mem_ready.1 (show i ∈ Region.ready .any ops L by rw [hr]; simp)
      have := h0 i (Array.getElem?_eq_some_iff.1 h2).1
      rw [h1] at this; cases this
  | fuel + 1, L, a, w, hsz, hu, hp => by
    refine ⟨fun hr => hfin L a w hsz hp (all_listed hb hsz hr), fun i hi => ?_⟩
    obtain ⟨h1, o, h2, _⟩ := mem_ready.1 hi
    have h3 := unl_set h1 ops.size (Array.getElem?_eq_some_iff.1 h2).1
    exact wpOp_mono (fun a' w' h' => wpAny_inv Phi hb hstep hfin fuel _ a' w' (by simpa using hsz) (by omega) h') (hstep L a w i hsz hp hi)

/-- A variable that is made: by which operation, which one stores into it, its slot, its type, what is stored. -/
structure Cel where
  al : Nat
  st : Nat
  dst : Nat
  t : TypeId
  V : Array Value

structure PHI (w0 : World) (a0 : Act) (VL : List (Nat × Nat × Value)) (CL : List Cel) (L : Array Bool) (a : Act) (w : World) : Prop where
  ext : Ext w0 w
  dfr : a.defers = []
  len : a.tmps.size = a0.tmps.size
  keep : ∀ s, (∀ p ∈ VL, p.2.1 ≠ s) → (∀ c ∈ CL, c.dst ≠ s) → a.tmps.getD s undef = a0.tmps.getD s undef
  vals : ∀ p ∈ VL, L.getD p.1 false = true → a.tmps.getD p.2.1 undef = p.2.2
  ord : ∀ c ∈ CL, L.getD c.st false = true → L.getD c.al false = true
  cells : ∀ c ∈ CL, L.getD c.al false = true → ∃ b, a.tmps.getD c.dst undef = .pointer (some (at_ (b, 0) 0)) ∧ w0.heap.size ≤ b ∧
    ∃ blk, w.heap[b]? = some (.cells blk c.t (0, 0)) ∧ blk.size = c.V.size ∧ (L.getD c.st false = true → blk = c.V)
  dist : ∀ c ∈ CL, ∀ d ∈ CL, c.dst ≠ d.dst → L.getD c.al false = true → L.getD d.al false = true → ∀ b b', a.tmps.getD c.dst undef = .pointer (some (at_ (b, 0) 0)) →
    a.tmps.getD d.dst undef = .pointer (some (at_ (b', 0) 0)) → b ≠ b'

theorem put_getD {a : Act} {d s : Nat} {v : Value} (hd : d < a.tmps.size) : (a.put (some d) v).tmps.getD s undef = if d = s then v else a.tmps.getD s undef := by
  simp only [Act.put, Array.getD_eq_getD_getElem?, Array.getElem?_setIfInBounds]
  split
  · rename_i h; subst h; simp [hd]
  · rfl

theorem set_getD {L : Array Bool} {i j : Nat} (hi : i < L.size) : (L.setIfInBounds i true).getD j false = if i = j then true else L.getD j false := by
  simp only [Array.getD_eq_getD_getElem?, Array.getElem?_setIfInBounds]
  split
  · rename_i h; subst h; simp [hi]
  · rfl

section
variable {w0 : World} {a0 : Act} {VL : List (Nat × Nat × Value)} {CL : List Cel} {L : Array Bool} {a : Act} {w w' : World}

theorem PHI.value (h : PHI w0 a0 VL CL L a w) {p : Nat × Nat × Value} (hp : p ∈ VL) (hi : p.1 < L.size) (hd : p.2.1 < a0.tmps.size) (hq : ∀ q ∈ VL, q.1 = p.1 ∨ q.2.1 = p.2.1 → q = p) (hc : ∀ c ∈ CL, c.dst ≠ p.2.1 ∧ c.al ≠ p.1 ∧ c.st ≠ p.1)
    (e : Ext w w') : PHI w0 a0 VL CL (L.setIfInBounds p.1 true) (a.put (some p.2.1) p.2.2) w' := by
  have hd' : p.2.1 < a.tmps.size := by rw [h.len]; exact hd
  refine ⟨h.ext.trans e, h.dfr, by simp [Act.put, h.len], fun s h1 h2 => ?_, fun q hq' hl => ?_, fun c hc' hl => ?_, fun c hc' hl => ?_, fun c hc' d hd2 hne h1 h2 b b' h3 h4 => ?_⟩
  · rw [put_getD hd', if_neg (h1 p hp)]; exact h.keep s h1 h2
  · rw [put_getD hd']
    rw [set_getD hi] at hl
    split
    · rename_i hs; rw [hq q hq' (.inr hs.symm)]
    · rename_i hs
      rw [if_neg] at hl
      · exact h.vals q hq' hl
      · intro h1; exact hs (by rw [hq q hq' (.inl h1.symm)])
  · obtain ⟨c1, c2, c3⟩ := hc c hc'
    rw [set_getD hi, if_neg (Ne.symm c3)] at hl
    rw [set_getD hi, if_neg (Ne.symm c2)]
    exact h.ord c hc' hl
  · obtain ⟨c1, c2, c3⟩ := hc c hc'
    rw [set_getD hi, if_neg (Ne.symm c2)] at hl
    obtain ⟨b, q1, q2, blk, q3, q4, q5⟩ := h.cells c hc' hl
    refine ⟨b, by rw [put_getD hd', if_neg (Ne.symm c1)]; exact q1, q2, blk, e.get q3, q4, fun h' => q5 ?_⟩
    rw [set_getD hi, if_neg (Ne.symm c3)] at h'
    exact h'
  · obtain ⟨c1, c2, c3⟩ := hc c hc'
    obtain ⟨d1, d2, d3⟩ := hc d hd2
    rw [set_getD hi, if_neg (Ne.symm c2)] at h1
    rw [set_getD hi, if_neg (Ne.symm d2)] at h2
    rw [put_getD hd', if_neg (Ne.symm c1)] at h3
    rw [put_getD hd', if_neg (Ne.symm d1)] at h4
    exact h.dist c hc' d hd2 hne h1 h2 b b' h3 h4

theorem PHI.alloc (h : PHI w0 a0 VL CL L a w) {c : Cel} (hc : c ∈ CL) (hi : c.al < L.size) (hun : L.getD c.al false = false) (hd : c.dst < a0.tmps.size) (hq : ∀ q ∈ VL, q.1 ≠ c.al ∧ q.2.1 ≠ c.dst)
    (hcl : ∀ d ∈ CL, (d.al = c.al ∨ d.dst = c.dst → d = c) ∧ d.st ≠ c.al) {Z : Array Value} (hz : Z.size = c.V.size) :
    PHI w0 a0 VL CL (L.setIfInBounds c.al true) (a.put (some c.dst) (.pointer (some (at_ (w.heap.size, 0) 0)))) (pushB w (.cells Z c.t)) := by
  have hd' : c.dst < a.tmps.size := by rw [h.len]; exact hd
  have e := ext_push w (.cells Z c.t)
  have hne : ∀ d ∈ CL, d ≠ c → c.al ≠ d.al ∧ c.dst ≠ d.dst := fun d hd2 hdc => ⟨fun h1 => hdc ((hcl d hd2).1 (.inl h1.symm)), fun h1 => hdc ((hcl d hd2).1 (.inr h1.symm))⟩
  have hlt : ∀ d ∈ CL, L.getD d.al false = true → ∀ b, a.tmps.getD d.dst undef = .pointer (some (at_ (b, 0) 0)) → b < w.heap.size := by
    intro d hd2 hl b hb
    obtain ⟨b2, q1, q2, blk, q3, _⟩ := h.cells d hd2 hl
    rw [hb] at q1
    have : b = b2 := by injection q1 with q1; injection q1 with q1; simp only [at_, Addr.mk.injEq] at q1; exact q1.1
    rw [this]; exact (Array.getElem?_eq_some_iff.1 q3).1
  have hpt : ∀ {x b : Nat}, (Value.pointer (some (at_ (x, 0) 0))) = .pointer (some (at_ (b, 0) 0)) → x = b := by
    intro x b h1; injection h1 with h1; injection h1 with h1; simp only [at_, Addr.mk.injEq] at h1; exact h1.1
  refine ⟨h.ext.trans e, h.dfr, by simp [Act.put, h.len], fun s h1 h2 => ?_, fun q hq' hl => ?_, fun d hd2 hl => ?_, fun d hd2 hl => ?_, fun d hd2 d' hd3 hdd h1 h2 b b' h3 h4 => ?_⟩
  · rw [put_getD hd', if_neg (h2 c hc)]; exact h.keep s h1 h2
  · rw [set_getD hi, if_neg (Ne.symm (hq q hq').1)] at hl
    rw [put_getD hd', if_neg (Ne.symm (hq q hq').2)]
    exact h.vals q hq' hl
  · rw [set_getD hi, if_neg (Ne.symm (hcl d hd2).2)] at hl
    rw [set_getD hi]
    split
    · rfl
    · exact h.ord d hd2 hl
  · by_cases hdc : d = c
    · subst hdc
      refine ⟨w.heap.size, by rw [put_getD hd', if_pos rfl], h.ext.size, Z, push_get w _, hz, fun hst => ?_⟩
      rw [set_getD hi, if_neg (Ne.symm (hcl d hd2).2)] at hst
      have := h.ord d hd2 hst
      rw [hun] at this; cases this
    · obtain ⟨n1, n2⟩ := hne d hd2 hdc
      rw [set_getD hi, if_neg n1] at hl
      obtain ⟨b, q1, q2, blk, q3, q4, q5⟩ := h.cells d hd2 hl
      refine ⟨b, by rw [put_getD hd', if_neg n2]; exact q1, q2, blk, e.get q3, q4, fun hst => q5 ?_⟩
      rw [set_getD hi, if_neg (Ne.symm (hcl d hd2).2)] at hst
      exact hst
  · by_cases hdc : d = c
    · subst hdc
      rw [put_getD hd', if_pos rfl] at h3
      have n3 : d' ≠ d := fun h0 => hdd (by rw [h0])
      obtain ⟨n1, n2⟩ := hne d' hd3 n3
      rw [set_getD hi, if_neg n1] at h2
      rw [put_getD hd', if_neg n2] at h4
      have := hlt d' hd3 h2 b' h4
      have := hpt h3
      omega
    · obtain ⟨n1, n2⟩ := hne d hd2 hdc
      rw [set_getD hi, if_neg n1] at h1
      rw [put_getD hd', if_neg n2] at h3
      by_cases hdc' : d' = c
      · subst hdc'
        rw [put_getD hd', if_pos rfl] at h4
        have := hlt d hd2 h1 b h3
        have := hpt h4
        omega
      · obtain ⟨m1, m2⟩ := hne d' hd3 hdc'
        rw [set_getD hi, if_neg m1] at h2
        rw [put_getD hd', if_neg m2] at h4
        exact h.dist d hd2 d' hd3 hdd h1 h2 b b' h3 h4

theorem PHI.store (h : PHI w0 a0 VL CL L a w) {c : Cel} (hc : c ∈ CL) (hi : c.st < L.size) (hal : L.getD c.al false = true) (hq : ∀ q ∈ VL, q.1 ≠ c.st)
    (hcl : ∀ d ∈ CL, (d.st = c.st ∨ d.dst = c.dst → d = c) ∧ d.al ≠ c.st) {b : Nat} (hb : a.tmps.getD c.dst undef = .pointer (some (at_ (b, 0) 0))) (ho : OnlyB w w' b) (hw : w'.heap[b]? = some (.cells c.V c.t (0, 0))) :
    PHI w0 a0 VL CL (L.setIfInBounds c.st true) a w' := by
  obtain ⟨b0, q1, q2, blk, q3, q4, q5⟩ := h.cells c hc hal
  have hbb : b0 = b := by
    rw [hb] at q1; injection q1 with q1; injection q1 with q1; simp only [at_, Addr.mk.injEq] at q1; exact q1.1.symm
  subst hbb
  have e : Ext w0 w' := ⟨h.ext.str.trans ho.str, by rw [ho.size]; exact h.ext.size, fun x hx => by rw [ho.block x (by omega)]; exact h.ext.block x hx⟩
  refine ⟨e, h.dfr, h.len, h.keep, fun q hq' hl => ?_, fun d hd2 hl => ?_, fun d hd2 hl => ?_, fun d hd2 d' hd3 hdd h1 h2 b b' h3 h4 => ?_⟩
  · rw [set_getD hi, if_neg (Ne.symm (hq q hq'))] at hl
    exact h.vals q hq' hl
  · rw [set_getD hi, if_neg (Ne.symm (hcl d hd2).2)]
    rw [set_getD hi] at hl
    split at hl
    · rename_i h1; rw [(hcl d hd2).1 (.inl h1.symm)]; exact hal
    · exact h.ord d hd2 hl
  · rw [set_getD hi, if_neg (Ne.symm (hcl d hd2).2)] at hl
    by_cases hdc : d = c
    · subst hdc
      exact ⟨b0, hb, q2, d.V, hw, rfl, fun _ => rfl⟩
    · have hne : d.dst ≠ c.dst := fun h1 => hdc ((hcl d hd2).1 (.inr h1))
      obtain ⟨b1, r1, r2, blk1, r3, r4, r5⟩ := h.cells d hd2 hl
      have hb1 := h.dist d hd2 c hc hne hl hal b1 b0 r1 hb
      refine ⟨b1, r1, r2, blk1, by rw [ho.block b1 hb1]; exact r3, r4, fun hst => r5 ?_⟩
      rw [set_getD hi, if_neg] at hst
      · exact hst
      · intro h1; exact hdc ((hcl d hd2).1 (.inl h1.symm))
  · rw [set_getD hi, if_neg (Ne.symm (hcl d hd2).2)] at h1
    rw [set_getD hi, if_neg (Ne.symm (hcl d' hd3).2)] at h2
    exact h.dist d hd2 d' hd3 hdd h1 h2 b b' h3 h4
end

/-- A call of a function that is handed memory for reading alone, by its summary. -/
theorem calls_of_summ {f : FuncId} {S : Summ} (hs : SoundFn P f S) {vs rs : List TV} {h : Heap} (he : S vs h (fun rs _ => some (rs, [])) = some (rs, [])) {m : GM} {w : World} {cvs : List Value}
    (hi : Inv ⟨w, fun _ => False⟩ m h w) (hx : TVs m vs cvs) : Calls P f cvs.toArray w fun e w' => ∃ v t, e = .returned v ∧ ResRel (m ++ t) rs v ∧ Ext w w' := by
  refine (hs.ok vs h _ _ he _ m w cvs rfl hi hx).mono ?_
  rintro e w' ⟨rs', h', hk, v, t, rfl, hr, hi'⟩
  simp only [Option.some.injEq, Prod.mk.injEq, and_true] at hk
  subst hk
  exact ⟨v, t, rfl, hr, hi'.str, hi'.size, fun b hb => hi'.frame b hb (fun h => h)⟩

end Go.Proofs.Ytlokielmpdjedaa.Ev
