/- Merged: EvMultiDef, ShaBlk, EvF116, EvF117, EvF97, EvF56, EvF70v2686, EvF20, EvF20v1385, EvF22v568, EvF73, EvF96v5041, EvF53v5041, EvF54, EvF96v5672, EvF53v5672, EvF101, EvF68, EvF69, EvF58, EvF10, EvF7, EvF66, EvF14, EvF59, EvF118. -/
import Derived.Test.YtillbabmlfjegaaMWalkNil3
import Derived.Test.YtillbabmlfjegaaMWalkNil2
import Derived.Test.YtillbabmlfjegaaProg
import Derived.KernelRfl
section
/- A region of open order that makes several variables at once: what is known whichever operations have come up. -/
namespace Go.Proofs.Ytillbabmlfjegaa.Ev
open Go
set_option linter.unusedVariables false
variable {P : Program}

def unl (L : Array Bool) : Nat → Nat
  | 0 => 0
  | n + 1 => unl L n + (if L.getD n true = true then 0 else 1)

theorem unl_ne {L : Array Bool} {i : Nat} : ∀ n, n ≤ i → unl (L.setIfInBounds i true) n = unl L n
  | 0, _ => rfl
  | n + 1, h => by
    simp only [unl]
    rw [unl_ne n (by omega), getD_set_ne true (by omega)]

theorem unl_set {L : Array Bool} {i : Nat} (hi : L.getD i true = false) : ∀ n, i < n → unl (L.setIfInBounds i true) n + 1 = unl L n
  | 0, h => by omega
  | n + 1, h => by
    simp only [unl]
    by_cases hn : i = n
    · subst hn
      have h1 : (L.setIfInBounds i true).getD i true = true := by
        rcases Nat.lt_or_ge i L.size with h' | h'
        · simp [h']
        · simp [Array.getElem?_eq_none h'] at hi
      rw [unl_ne i (Nat.le_refl _), h1, hi]
      simp
    · have := unl_set hi n (by omega)
      rw [getD_set_ne true hn]
      omega

theorem unl_zero {L : Array Bool} : ∀ n, unl L n = 0 → ∀ j, j < n → L.getD j true = true
  | 0, _, j, h => by omega
  | n + 1, h0, j, h => by
    simp only [unl] at h0
    by_cases hj : j = n
    · subst hj
      cases hb : L.getD j true with
      | true => rfl
      | false => rw [hb] at h0; simp at h0
    · exact unl_zero n (by omega) j (by omega)

theorem unl_none : ∀ n m, n ≤ m → unl (Array.replicate m false) n = n
  | 0, _, _ => rfl
  | n + 1, m, h => by
    simp only [unl]
    rw [unl_none n m (by omega)]
    have : (Array.replicate m false).getD n true = false := by simp [show n < m by omega]
    rw [this]; simp

/-- Each edge that binds points back. -/
def backB (ops : Array Oper) : Bool := (List.range ops.size).all fun j => match ops[j]? with
  | some o => o.after.all fun e => !(Region.binds .any e) || decide (e.on < j)
  | none => true

theorem all_listed {ops : Array Oper} (hb : backB ops = true) {L : Array Bool} (hsz : L.size = ops.size) (hr : Region.ready .any ops L = []) : ∀ j, j < ops.size → L.getD j true = true := by
  intro j
  induction j using Nat.strongRecOn with
  | _ j ih =>
    intro hj
    cases hq : L.getD j true with
    | true => rfl
    | false =>
      exfalso
      obtain ⟨o, ho⟩ : ∃ o, ops[j]? = some o := ⟨_, Array.getElem?_eq_getElem hj⟩
      have : j ∈ Region.ready .any ops L := by
        refine mem_ready.2 ⟨hq, o, ho, fun e he hbe => ?_⟩
        have h1 := List.all_eq_true.1 hb j (List.mem_range.2 hj)
        simp only [ho] at h1
        have h2 := Array.all_eq_true'.1 h1 e he
        simp only [hbe, Bool.not_true, Bool.false_or, decide_eq_true_eq] at h2
        have h3 := ih e.on h2 (by omega)
        have : e.on < L.size := by omega
        simp [this] at h3 ⊢
        exact h3
      rw [hr] at this; cases this

/-- What holds whichever operations have come up. -/
theorem wpAny_inv {ops : Array Oper} {Q : Exit → Act → World → Prop} (Phi : Array Bool → Act → World → Prop) (hb : backB ops = true)
    (hstep : ∀ L a w i, L.size = ops.size → Phi L a w → i ∈ Region.ready .any ops L → wpOp P ops Q i (fun a' w' => Phi (L.setIfInBounds i true) a' w') a w)
    (hfin : ∀ L a w, L.size = ops.size → Phi L a w → (∀ j, j < ops.size → L.getD j true = true) → Q .normal a w) :
    ∀ fuel L a w, L.size = ops.size → unl L ops.size ≤ fuel → Phi L a w → wpAny P .any ops Q fuel L a w
  | 0, L, a, w, hsz, hu, hp => by
    have h0 := unl_zero _ (by omega : unl L ops.size = 0)
    refine ⟨?_, hfin L a w hsz hp h0⟩
    cases hr : Region.ready .any ops L with
    | nil => rfl
    | cons i r =>
      obtain ⟨h1, o, h2, _⟩ := mem_ready.1 (show i ∈ Region.ready .any ops L by rw [hr]; simp)
      have := h0 i (Array.getElem?_eq_some_iff.1 h2).1
      rw [h1] at this; cases this
  | fuel + 1, L, a, w, hsz, hu, hp => by
    refine ⟨fun hr => hfin L a w hsz hp (all_listed hb hsz hr), fun i hi => ?_⟩
    obtain ⟨h1, o, h2, _⟩ := mem_ready.1 hi
    have h3 := unl_set h1 ops.size (Array.getElem?_eq_some_iff.1 h2).1
    exact wpOp_mono (fun a' w' h' => wpAny_inv Phi hb hstep hfin fuel _ a' w' (by simpa using hsz) (by omega) h') (hstep L a w i hsz hp hi)

/-- A variable that is made: by which operation, which one stores into it, its slot, its type, what is stored. -/
structure Cel where
  al : Nat
  st : Nat
  dst : Nat
  t : TypeId
  V : Array Value

structure PHI (w0 : World) (a0 : Act) (VL : List (Nat × Nat × Value)) (CL : List Cel) (L : Array Bool) (a : Act) (w : World) : Prop where
  ext : Ext w0 w
  dfr : a.defers = []
  len : a.tmps.size = a0.tmps.size
  keep : ∀ s, (∀ p ∈ VL, p.2.1 ≠ s) → (∀ c ∈ CL, c.dst ≠ s) → a.tmps.getD s undef = a0.tmps.getD s undef
  vals : ∀ p ∈ VL, L.getD p.1 false = true → a.tmps.getD p.2.1 undef = p.2.2
  ord : ∀ c ∈ CL, L.getD c.st false = true → L.getD c.al false = true
  cells : ∀ c ∈ CL, L.getD c.al false = true → ∃ b, a.tmps.getD c.dst undef = .pointer (some (at_ (b, 0) 0)) ∧ w0.heap.size ≤ b ∧
    ∃ blk, w.heap[b]? = some (.cells blk c.t (0, 0)) ∧ blk.size = c.V.size ∧ (L.getD c.st false = true → blk = c.V)
  dist : ∀ c ∈ CL, ∀ d ∈ CL, c.dst ≠ d.dst → L.getD c.al false = true → L.getD d.al false = true → ∀ b b', a.tmps.getD c.dst undef = .pointer (some (at_ (b, 0) 0)) →
    a.tmps.getD d.dst undef = .pointer (some (at_ (b', 0) 0)) → b ≠ b'

theorem put_getD {a : Act} {d s : Nat} {v : Value} (hd : d < a.tmps.size) : (a.put (some d) v).tmps.getD s undef = if d = s then v else a.tmps.getD s undef := by
  simp only [Act.put, Array.getD_eq_getD_getElem?, Array.getElem?_setIfInBounds]
  split
  · rename_i h; subst h; simp [hd]
  · rfl

theorem set_getD {L : Array Bool} {i j : Nat} (hi : i < L.size) : (L.setIfInBounds i true).getD j false = if i = j then true else L.getD j false := by
  simp only [Array.getD_eq_getD_getElem?, Array.getElem?_setIfInBounds]
  split
  · rename_i h; subst h; simp [hi]
  · rfl

section
variable {w0 : World} {a0 : Act} {VL : List (Nat × Nat × Value)} {CL : List Cel} {L : Array Bool} {a : Act} {w w' : World}

theorem PHI.value (h : PHI w0 a0 VL CL L a w) {p : Nat × Nat × Value} (hp : p ∈ VL) (hi : p.1 < L.size) (hd : p.2.1 < a0.tmps.size) (hq : ∀ q ∈ VL, q.1 = p.1 ∨ q.2.1 = p.2.1 → q = p) (hc : ∀ c ∈ CL, c.dst ≠ p.2.1 ∧ c.al ≠ p.1 ∧ c.st ≠ p.1)
    (e : Ext w w') : PHI w0 a0 VL CL (L.setIfInBounds p.1 true) (a.put (some p.2.1) p.2.2) w' := by
  have hd' : p.2.1 < a.tmps.size := by rw [h.len]; exact hd
  refine ⟨h.ext.trans e, h.dfr, by simp [Act.put, h.len], fun s h1 h2 => ?_, fun q hq' hl => ?_, fun c hc' hl => ?_, fun c hc' hl => ?_, fun c hc' d hd2 hne h1 h2 b b' h3 h4 => ?_⟩
  · rw [put_getD hd', if_neg (h1 p hp)]; exact h.keep s h1 h2
  · rw [put_getD hd']
    rw [set_getD hi] at hl
    split
    · rename_i hs; rw [hq q hq' (.inr hs.symm)]
    · rename_i hs
      rw [if_neg] at hl
      · exact h.vals q hq' hl
      · intro h1; exact hs (by rw [hq q hq' (.inl h1.symm)])
  · obtain ⟨c1, c2, c3⟩ := hc c hc'
    rw [set_getD hi, if_neg (Ne.symm c3)] at hl
    rw [set_getD hi, if_neg (Ne.symm c2)]
    exact h.ord c hc' hl
  · obtain ⟨c1, c2, c3⟩ := hc c hc'
    rw [set_getD hi, if_neg (Ne.symm c2)] at hl
    obtain ⟨b, q1, q2, blk, q3, q4, q5⟩ := h.cells c hc' hl
    refine ⟨b, by rw [put_getD hd', if_neg (Ne.symm c1)]; exact q1, q2, blk, e.get q3, q4, fun h' => q5 ?_⟩
    rw [set_getD hi, if_neg (Ne.symm c3)] at h'
    exact h'
  · obtain ⟨c1, c2, c3⟩ := hc c hc'
    obtain ⟨d1, d2, d3⟩ := hc d hd2
    rw [set_getD hi, if_neg (Ne.symm c2)] at h1
    rw [set_getD hi, if_neg (Ne.symm d2)] at h2
    rw [put_getD hd', if_neg (Ne.symm c1)] at h3
    rw [put_getD hd', if_neg (Ne.symm d1)] at h4
    exact h.dist c hc' d hd2 hne h1 h2 b b' h3 h4

theorem PHI.alloc (h : PHI w0 a0 VL CL L a w) {c : Cel} (hc : c ∈ CL) (hi : c.al < L.size) (hun : L.getD c.al false = false) (hd : c.dst < a0.tmps.size) (hq : ∀ q ∈ VL, q.1 ≠ c.al ∧ q.2.1 ≠ c.dst)
    (hcl : ∀ d ∈ CL, (d.al = c.al ∨ d.dst = c.dst → d = c) ∧ d.st ≠ c.al) {Z : Array Value} (hz : Z.size = c.V.size) :
    PHI w0 a0 VL CL (L.setIfInBounds c.al true) (a.put (some c.dst) (.pointer (some (at_ (w.heap.size, 0) 0)))) (pushB w (.cells Z c.t)) := by
  have hd' : c.dst < a.tmps.size := by rw [h.len]; exact hd
  have e := ext_push w (.cells Z c.t)
  have hne : ∀ d ∈ CL, d ≠ c → c.al ≠ d.al ∧ c.dst ≠ d.dst := fun d hd2 hdc => ⟨fun h1 => hdc ((hcl d hd2).1 (.inl h1.symm)), fun h1 => hdc ((hcl d hd2).1 (.inr h1.symm))⟩
  have hlt : ∀ d ∈ CL, L.getD d.al false = true → ∀ b, a.tmps.getD d.dst undef = .pointer (some (at_ (b, 0) 0)) → b < w.heap.size := by
    intro d hd2 hl b hb
    obtain ⟨b2, q1, q2, blk, q3, _⟩ := h.cells d hd2 hl
    rw [hb] at q1
    have : b = b2 := by injection q1 with q1; injection q1 with q1; simp only [at_, Addr.mk.injEq] at q1; exact q1.1
    rw [this]; exact (Array.getElem?_eq_some_iff.1 q3).1
  have hpt : ∀ {x b : Nat}, (Value.pointer (some (at_ (x, 0) 0))) = .pointer (some (at_ (b, 0) 0)) → x = b := by
    intro x b h1; injection h1 with h1; injection h1 with h1; simp only [at_, Addr.mk.injEq] at h1; exact h1.1
  refine ⟨h.ext.trans e, h.dfr, by simp [Act.put, h.len], fun s h1 h2 => ?_, fun q hq' hl => ?_, fun d hd2 hl => ?_, fun d hd2 hl => ?_, fun d hd2 d' hd3 hdd h1 h2 b b' h3 h4 => ?_⟩
  · rw [put_getD hd', if_neg (h2 c hc)]; exact h.keep s h1 h2
  · rw [set_getD hi, if_neg (Ne.symm (hq q hq').1)] at hl
    rw [put_getD hd', if_neg (Ne.symm (hq q hq').2)]
    exact h.vals q hq' hl
  · rw [set_getD hi, if_neg (Ne.symm (hcl d hd2).2)] at hl
    rw [set_getD hi]
    split
    · rfl
    · exact h.ord d hd2 hl
  · by_cases hdc : d = c
    · subst hdc
      refine ⟨w.heap.size, by rw [put_getD hd', if_pos rfl], h.ext.size, Z, push_get w _, hz, fun hst => ?_⟩
      rw [set_getD hi, if_neg (Ne.symm (hcl d hd2).2)] at hst
      have := h.ord d hd2 hst
      rw [hun] at this; cases this
    · obtain ⟨n1, n2⟩ := hne d hd2 hdc
      rw [set_getD hi, if_neg n1] at hl
      obtain ⟨b, q1, q2, blk, q3, q4, q5⟩ := h.cells d hd2 hl
      refine ⟨b, by rw [put_getD hd', if_neg n2]; exact q1, q2, blk, e.get q3, q4, fun hst => q5 ?_⟩
      rw [set_getD hi, if_neg (Ne.symm (hcl d hd2).2)] at hst
      exact hst
  · by_cases hdc : d = c
    · subst hdc
      rw [put_getD hd', if_pos rfl] at h3
      have n3 : d' ≠ d := fun h0 => hdd (by rw [h0])
      obtain ⟨n1, n2⟩ := hne d' hd3 n3
      rw [set_getD hi, if_neg n1] at h2
      rw [put_getD hd', if_neg n2] at h4
      have := hlt d' hd3 h2 b' h4
      have := hpt h3
      omega
    · obtain ⟨n1, n2⟩ := hne d hd2 hdc
      rw [set_getD hi, if_neg n1] at h1
      rw [put_getD hd', if_neg n2] at h3
      by_cases hdc' : d' = c
      · subst hdc'
        rw [put_getD hd', if_pos rfl] at h4
        have := hlt d hd2 h1 b h3
        have := hpt h4
        omega
      · obtain ⟨m1, m2⟩ := hne d' hd3 hdc'
        rw [set_getD hi, if_neg m1] at h2
        rw [put_getD hd', if_neg m2] at h4
        exact h.dist d hd2 d' hd3 hdd h1 h2 b b' h3 h4

theorem PHI.store (h : PHI w0 a0 VL CL L a w) {c : Cel} (hc : c ∈ CL) (hi : c.st < L.size) (hal : L.getD c.al false = true) (hq : ∀ q ∈ VL, q.1 ≠ c.st)
    (hcl : ∀ d ∈ CL, (d.st = c.st ∨ d.dst = c.dst → d = c) ∧ d.al ≠ c.st) {b : Nat} (hb : a.tmps.getD c.dst undef = .pointer (some (at_ (b, 0) 0))) (ho : OnlyB w w' b) (hw : w'.heap[b]? = some (.cells c.V c.t (0, 0))) :
    PHI w0 a0 VL CL (L.setIfInBounds c.st true) a w' := by
  obtain ⟨b0, q1, q2, blk, q3, q4, q5⟩ := h.cells c hc hal
  have hbb : b0 = b := by
    rw [hb] at q1; injection q1 with q1; injection q1 with q1; simp only [at_, Addr.mk.injEq] at q1; exact q1.1.symm
  subst hbb
  have e : Ext w0 w' := ⟨h.ext.str.trans ho.str, by rw [ho.size]; exact h.ext.size, fun x hx => by rw [ho.block x (by omega)]; exact h.ext.block x hx⟩
  refine ⟨e, h.dfr, h.len, h.keep, fun q hq' hl => ?_, fun d hd2 hl => ?_, fun d hd2 hl => ?_, fun d hd2 d' hd3 hdd h1 h2 b b' h3 h4 => ?_⟩
  · rw [set_getD hi, if_neg (Ne.symm (hq q hq'))] at hl
    exact h.vals q hq' hl
  · rw [set_getD hi, if_neg (Ne.symm (hcl d hd2).2)]
    rw [set_getD hi] at hl
    split at hl
    · rename_i h1; rw [(hcl d hd2).1 (.inl h1.symm)]; exact hal
    · exact h.ord d hd2 hl
  · rw [set_getD hi, if_neg (Ne.symm (hcl d hd2).2)] at hl
    by_cases hdc : d = c
    · subst hdc
      exact ⟨b0, hb, q2, d.V, hw, rfl, fun _ => rfl⟩
    · have hne : d.dst ≠ c.dst := fun h1 => hdc ((hcl d hd2).1 (.inr h1))
      obtain ⟨b1, r1, r2, blk1, r3, r4, r5⟩ := h.cells d hd2 hl
      have hb1 := h.dist d hd2 c hc hne hl hal b1 b0 r1 hb
      refine ⟨b1, r1, r2, blk1, by rw [ho.block b1 hb1]; exact r3, r4, fun hst => r5 ?_⟩
      rw [set_getD hi, if_neg] at hst
      · exact hst
      · intro h1; exact hdc ((hcl d hd2).1 (.inl h1.symm))
  · rw [set_getD hi, if_neg (Ne.symm (hcl d hd2).2)] at h1
    rw [set_getD hi, if_neg (Ne.symm (hcl d' hd3).2)] at h2
    exact h.dist d hd2 d' hd3 hdd h1 h2 b b' h3 h4
end

/-- A call of a function that is handed memory for reading alone, by its summary. -/
theorem calls_of_summ {f : FuncId} {S : Summ} (hs : SoundFn P f S) {vs rs : List TV} {h : Heap} (he : S vs h (fun rs _ => some (rs, [])) = some (rs, [])) {m : GM} {w : World} {cvs : List Value}
    (hi : Inv ⟨w, fun _ => False⟩ m h w) (hx : TVs m vs cvs) : Calls P f cvs.toArray w fun e w' => ∃ v t, e = .returned v ∧ ResRel (m ++ t) rs v ∧ Ext w w' := by
  refine (hs.ok vs h _ _ he _ m w cvs rfl hi hx).mono ?_
  rintro e w' ⟨rs', h', hk, v, t, rfl, hr, hi'⟩
  simp only [Option.some.injEq, Prod.mk.injEq, and_true] at hk
  subst hk
  exact ⟨v, t, rfl, hr, hi'.str, hi'.size, fun b hb => hi'.frame b hb (fun h => h)⟩

end Go.Proofs.Ytillbabmlfjegaa.Ev
end

section
/- SHA-256: a block, as the code reckons it: the region that makes three variables in any order, and what is behind it. -/
namespace Go.Proofs.Ytillbabmlfjegaa.X
open Go Go.Proofs.Ytillbabmlfjegaa.Ev Go.Proofs
set_option linter.unusedVariables false

def k64 : List Int := [1116352408, 1899447441, 3049323471, 3921009573, 961987163, 1508970993, 2453635748, 2870763221, 3624381080, 310598401, 607225278, 1426881987, 1925078388, 2162078206, 2614888103, 3248222580, 3835390401, 4022224774, 264347078, 604807628, 770255983, 1249150122, 1555081692, 1996064986, 2554220882, 2821834349, 2952996808, 3210313671, 3336571891, 3584528711, 113926993, 338241895, 666307205, 773529912, 1294757372, 1396182291, 1695183700, 1986661051, 2177026350, 2456956037, 2730485921, 2820302411, 3259730800, 3345764771, 3516065817, 3600352804, 4094571909, 275423344, 430227734, 506948616, 659060556, 883997877, 958139571, 1322822218, 1537002063, 1747873779, 1955562222, 2024104815, 2227730452, 2361852424, 2428436474, 2756734187, 3204031479, 3329325298]

noncomputable def ops130 : Array Oper := match cL (cR code130) with | .region _ ops _ => ops | _ => #[]
noncomputable def opB (i : Nat) : Oper := ops130.getD i default

theorem opsB_size : ops130.size = 10 := by kernel_rfl
theorem opsB_back : backB ops130 = true := by kernel_rfl
theorem opsB_get {i : Nat} (h : i < 10) : ops130[i]? = some (opB i) := by
  have : i < ops130.size := by rw [opsB_size]; exact h
  rw [Array.getElem?_eq_getElem this]
  simp [opB, this]

theorem gB0 : ((List.range 10).all fun i => (opB i).guard.isNone) = true := by kernel_rfl
theorem gB (i : Nat) (h : i < 10) : (opB i).guard = none := by
  have := List.all_eq_true.1 gB0 i (List.mem_range.2 h)
  simpa using this

/-- An operation that waits for another one comes up behind it. -/
noncomputable def waits1 (i j : Nat) : Bool := (opB i).after.any fun e => Region.binds .any e && e.on == j
theorem waits1_spec {i j : Nat} (hi : i < 10) (h : waits1 i j = true) {L : Array Bool} (hr : i ∈ Region.ready .any ops130 L) : L.getD j false = true := by
  obtain ⟨_, o, ho, hall⟩ := mem_ready.1 hr
  rw [opsB_get hi] at ho
  cases ho
  obtain ⟨e, he, h1⟩ := Array.any_eq_true'.1 h
  simp only [Bool.and_eq_true, beq_iff_eq] at h1
  rw [← h1.2]; exact hall e he h1.1

abbrev u32v (l : List Int) : Array Value := (cvs (.int .u32) l).toArray
theorem u32v_size (l : List Int) : (u32v l).size = l.length := by simp [u32v, cvs_length, EK.w]

def VLb (b : List Int) (s : List Int) (vb : Value) : List (Nat × Nat × Value) :=
  [(0, 16, .agg (u32v k64)), (1, 17, vb), (2, 18, .agg (u32v (wds b))), (3, 19, .agg (u32v s))]
def CLb (b : List Int) (s : List Int) : List Cel :=
  [⟨4, 7, 5, 182, u32v k64⟩, ⟨5, 8, 6, 182, u32v (wds b)⟩, ⟨6, 9, 7, 177, u32v s⟩]

abbrev hB (ro : Bool) (b s z : List Int) : Heap := [some ⟨ro, [.seq (.int .u8) 0 b]⟩, some ⟨false, [.seq (.int .u32) 8 s]⟩, some ⟨false, [.seq (.int .u32) 8 z]⟩]

/-- A store into a variable that was made. -/
theorem store_new {a : Act} {w : World} {o : Oper} {t : TypeId} {d y n : Nat} {V blk : Array Value} {b : Nat} (ho : o.op = .store t (.tmp d) (.tmp y)) (hs : ∃ i, Try.prog.info? t = some i ∧ i.size = n) (hn : V.size = n) (hbs : blk.size = n)
    (hd : a.tmps.getD d undef = .pointer (some (at_ (b, 0) 0))) (hy : a.tmps.getD y undef = .agg V) (hlf : ∀ v ∈ V.toList, leafV v) (hb : w.heap[b]? = some (.cells blk t (0, 0))) :
    ∃ w', (execOp a.eval o).run Try.prog w = .ok .skip w' ∧ OnlyB w w' b ∧ w'.heap[b]? = some (.cells V t (0, 0)) := by
  obtain ⟨i, hi, hin⟩ := hs
  obtain ⟨w', cur', q1, q2, q3, q4⟩ := run_storeCells_any (P := Try.prog) (g := b) (o := 0) (t := t) (fr := (0, 0)) V.toList 0 blk w hb (by simp; omega) hlf (fun j _ => by simp)
  have hV : cur' = V := by
    apply Array.ext'
    rw [q4]
    have : blk.toList.length = n := by simpa using hbs
    have h2 : V.toList.length = n := by simpa using hn
    simp only [Nat.zero_add, List.take_zero, List.nil_append]
    rw [List.drop_eq_nil_of_le (by omega), List.append_nil]
  subst hV
  refine ⟨w', ?_, q2, q3⟩
  have ex : a.eval (.tmp d) = .pointer (some (at_ (b, 0) 0)) := hd
  have ey : a.eval (.tmp y) = .agg cur' := hy
  have hst : (storeCells (at_ (b, 0) 0) cur'.toList).run Try.prog w = .ok () w' := q1
  simp only [execOp, ho, ex, ey, Instr.storeAt, Instr.sureAddr, storeVar, Sem.run_bind, Sem.run_pure, Result.andThen_ok, run_size hi, Value.cells, hn, hin]
  simp [hst]

theorem alloc_new {a : Act} {w : World} {o : Oper} {t : TypeId} {es : List LV} {n : Nat} (ho : o.op = .alloc t) (hz : zeroE Try.prog t = some es) (hw : wOf es = some n) :
    ∃ Z : Array Value, Z.size = n ∧ (execOp a.eval o).run Try.prog w = .ok (.value (.pointer (some (at_ (w.heap.size, 0) 0)))) (pushB w (.cells Z t)) := by
  obtain ⟨i, z, hin, hzz, hoc⟩ := zeroE_cells (m := []) hz
  refine ⟨z.cells, ?_, ?_⟩
  · have := wOf_cells hw hoc
    simpa using this
  · simp [execOp, ho, Instr.alloc, zero_run hin hzz, newVar, newRow, newObj, Sem.run, pushB, at_]

theorem wp_of_ok {a : Act} {w w' : World} {o : Oper} {v : Value} {next : Act → World → Prop} {Q : Exit → Act → World → Prop} (h : (execOp a.eval o).run Try.prog w = .ok (.value v) w') (hn : next (a.put o.dst v) w') : o.wp Try.prog a w next Q := by
  unfold Oper.wp; rw [h, Oper.upon_value]; exact hn

theorem wp_of_skip {a : Act} {w w' : World} {o : Oper} {next : Act → World → Prop} {Q : Exit → Act → World → Prop} (h : (execOp a.eval o).run Try.prog w = .ok .skip w') (hn : next (a.put o.dst undef) w') : o.wp Try.prog a w next Q := by
  unfold Oper.wp; rw [h, Oper.upon_skip]; exact hn

theorem agg_inv {m : GM} {n : Nat} {l : List Int} {v : Value} (h : ResRel m [.agg [.seq (.int .u32) n l]] v) : v = .agg (u32v l) := by
  obtain ⟨cs, rfl, x, y, hcs, ⟨_, rfl⟩, rfl⟩ := h
  have : cs = u32v l := by apply Array.ext'; rw [hcs]; simp [u32v]
  rw [this]

set_option maxRecDepth 100000 in
/-- One operation of the region. -/
theorem regB_step {F : Nat} (hF : 100 ≤ F) {G : Ctx} {m : GM} {ro : Bool} {b s z : List Int} {vb : Value} {w0 : World} {a0 : Act} (hb : 64 ≤ b.length) (hs : s.length = 8) (hi : Inv G m (hB ro b s z) w0)
    (h1 : a0.tmps.getD 1 undef = vb) (hvb : LRel m (.full 0) vb) (h2 : TVRel m (.lf (.ptr 1 0)) (a0.tmps.getD 2 undef)) (hsz : 109 ≤ a0.tmps.size) {Q : Exit → Act → World → Prop} :
    ∀ L a w i, L.size = ops130.size → PHI w0 a0 (VLb b s vb) (CLb b s) L a w → i ∈ Region.ready .any ops130 L →
      wpOp Try.prog ops130 Q i (fun a' w' => PHI w0 a0 (VLb b s vb) (CLb b s) (L.setIfInBounds i true) a' w') a w := by
  intro L a w i hL hp hr
  rw [opsB_size] at hL
  obtain ⟨hun, o, ho, hall⟩ := mem_ready.1 hr
  have hi10 : i < 10 := by rw [← opsB_size]; exact (Array.getElem?_eq_some_iff.1 ho).1
  have hunf : L.getD i false = false := by
    have : i < L.size := by omega
    simp [this] at hun ⊢; exact hun
  have hwant : ∀ y, Region.wanted (opB i) y = true := fun y => by simp [Region.wanted, gB i hi10]
  have hkeep : ∀ s', s' < 16 → s' ≠ 5 → s' ≠ 6 → s' ≠ 7 → a.tmps.getD s' undef = a0.tmps.getD s' undef := fun s' q1 q2 q3 q4 => hp.keep s' (by simp [VLb]; omega) (by simp [CLb]; omega)
  refine wpOp_of (opsB_get hi10) ?_
  rw [if_pos (hwant _)]
  have hiw := hi.ext hp.ext
  have val : ∀ p ∈ VLb b s vb, p.1 = i → (opB i).dst = some p.2.1 → ∀ w', Ext w w' → PHI w0 a0 (VLb b s vb) (CLb b s) (L.setIfInBounds i true) (a.put (opB i).dst p.2.2) w' := by
    intro p hpm hpi hpd w' e
    subst hpi
    rw [hpd]
    refine hp.value hpm (by omega) ?_ ?_ ?_ e
    · simp only [VLb, List.mem_cons, List.not_mem_nil, or_false] at hpm
      rcases hpm with rfl | rfl | rfl | rfl <;> simp only <;> omega
    · intro q hq hor
      simp only [VLb, List.mem_cons, List.not_mem_nil, or_false] at hpm hq
      rcases hpm with rfl | rfl | rfl | rfl <;> rcases hq with rfl | rfl | rfl | rfl <;> first | rfl | (simp at hor)
    · intro c hc
      simp only [VLb, List.mem_cons, List.not_mem_nil, or_false] at hpm
      simp only [CLb, List.mem_cons, List.not_mem_nil, or_false] at hc
      rcases hpm with rfl | rfl | rfl | rfl <;> rcases hc with rfl | rfl | rfl <;> simp
  have cal : ∀ c ∈ CLb b s, c.al = i → (opB i).dst = some c.dst → ∀ Z : Array Value, Z.size = c.V.size →
      PHI w0 a0 (VLb b s vb) (CLb b s) (L.setIfInBounds i true) (a.put (opB i).dst (.pointer (some (at_ (w.heap.size, 0) 0)))) (pushB w (.cells Z c.t)) := by
    intro c hc hci hcd Z hZ
    subst hci
    rw [hcd]
    refine hp.alloc hc (by omega) hunf ?_ ?_ ?_ hZ
    · simp only [CLb, List.mem_cons, List.not_mem_nil, or_false] at hc
      rcases hc with rfl | rfl | rfl <;> simp only <;> omega
    · intro q hq
      simp only [VLb, List.mem_cons, List.not_mem_nil, or_false] at hq
      simp only [CLb, List.mem_cons, List.not_mem_nil, or_false] at hc
      rcases hc with rfl | rfl | rfl <;> rcases hq with rfl | rfl | rfl | rfl <;> simp
    · intro d hd
      simp only [CLb, List.mem_cons, List.not_mem_nil, or_false] at hc hd
      rcases hc with rfl | rfl | rfl <;> rcases hd with rfl | rfl | rfl <;> simp
  have cst : ∀ c ∈ CLb b s, ∀ y n, c.st = i → waits1 i c.al = true → (opB i).dst = none → (opB i).op = .store c.t (.tmp c.dst) (.tmp y) → c.V.size = n → (∃ i, Try.prog.info? c.t = some i ∧ i.size = n) →
      a.tmps.getD y undef = .agg c.V → (∀ v ∈ c.V.toList, leafV v) → (opB i).wp Try.prog a w (fun a' w' => PHI w0 a0 (VLb b s vb) (CLb b s) (L.setIfInBounds i true) a' w') Q := by
    intro c hc y n hci hwt hdn hop hVn hin hy hlf
    subst hci
    have hal := waits1_spec hi10 hwt hr
    obtain ⟨bb, q1, q2, blk, q3, q4, q5⟩ := hp.cells c hc hal
    obtain ⟨w', r1, r2, r3⟩ := store_new (a := a) (w := w) (o := opB c.st) hop hin hVn (q4.trans hVn) q1 hy hlf q3
    refine wp_of_skip r1 ?_
    rw [hdn]
    refine hp.store hc (by omega) hal ?_ ?_ q1 r2 r3
    · intro q hq
      simp only [VLb, List.mem_cons, List.not_mem_nil, or_false] at hq
      simp only [CLb, List.mem_cons, List.not_mem_nil, or_false] at hc
      rcases hc with rfl | rfl | rfl <;> rcases hq with rfl | rfl | rfl | rfl <;> simp
    · intro d hd
      simp only [CLb, List.mem_cons, List.not_mem_nil, or_false] at hc hd
      rcases hc with rfl | rfl | rfl <;> rcases hd with rfl | rfl | rfl <;> simp
  have lf : ∀ l : List Int, ∀ v ∈ (u32v l).toList, leafV v := fun l v hv => by
    simp only [u32v] at hv; exact cvs_leaf _ _ v hv
  match i, hi10 with
  | 0, _ =>
    have hop : (opB 0).op = .call ⟨.value (.func 140), #[], #[]⟩ := by kernel_rfl
    have hc := calls_of_summ (S140_1_ok F noS (noS_sound enter140)) (vs := []) (rs := [.agg [.seq (.int .u32) 64 k64]]) (h := []) (by kernel_rfl) (m := []) (w := w) (cvs := []) (inv_nil w _) trivial
    have hrun : (execOp a.eval (opB 0)).run Try.prog w = .ok (.enter 140 #[]) w := by
      have hfv : a.eval (.func 140) = .func (.func 140) #[] #[] := rfl
      simp only [execOp, hop, resolve, hfv, Deferred.ofValue, Sem.run_bind, Sem.run_pure, Result.andThen_ok, invoke, Array.empty_append, Array.append_empty, Array.map_empty, enter140]
    unfold Oper.wp
    rw [hrun, Oper.upon_enter]
    refine hc.mono ?_
    rintro e w' ⟨v, t, rfl, hr2, hext⟩
    have := agg_inv hr2
    subst this
    exact val (0, 16, .agg (u32v k64)) (by simp [VLb]) rfl (by kernel_rfl) w' hext
  | 1, _ =>
    clear cal cst
    have hop : (opB 1).op = .move (.tmp 1) := by kernel_rfl
    have hv : a.eval (.tmp 1) = vb := (hkeep 1 (by omega) (by omega) (by omega) (by omega)).trans h1
    refine wp_of_ok (v := vb) (w' := w) (by simp only [execOp, hop, Sem.run_pure, hv]) ?_
    exact val (1, 17, vb) (by simp [VLb]) rfl (by kernel_rfl) w (Ext.refl w)
  | 2, _ =>
    have hop : (opB 2).op = .call ⟨.value (.func 141), #[.tmp 17], #[24]⟩ := by kernel_rfl
    have hl1 := waits1_spec (i := 2) (j := 1) (by omega) (by kernel_rfl) hr
    have h17 : a.tmps.getD 17 undef = vb := hp.vals (1, 17, vb) (by simp [VLb]) hl1
    obtain ⟨g, hg, hsl⟩ := hvb
    have hob : hget (hB ro b s z) 0 = some ⟨ro, [.seq (.int .u8) 0 b]⟩ := rfl
    have hone : Inv ⟨w, fun _ => False⟩ [g] [some ⟨true, [.seq (.int .u8) 0 b]⟩] w := by
      refine ⟨rfl, fun id ob g' q1 q2 => ?_, fun id ob g' c q1 q2 q3 => ?_, fun i j oi oj gi gj b c hne q1 q2 q3 q4 => ?_, Str.refl w, Nat.le_refl _, fun _ _ _ => rfl⟩
      · match id, q1, q2 with
        | 0, q1, q2 =>
          cases q1; cases q2
          obtain ⟨u1, cs, u2, u3⟩ := hiw.obs 0 _ g hob hg
          refine ⟨u1, cs, ?_, ?_⟩
          · obtain ⟨x, y, rfl, hx, hy⟩ := u2
            exact ⟨x, y, rfl, hx, hy⟩
          · rcases u3 with u3 | ⟨c, blk, t, fr, v1, v2, v3, v4, v5, v6⟩
            · exact .inl u3
            · exact .inr ⟨c, blk, t, fr, v1, v2, v3, v4, v5, fun h => by cases h⟩
        | _ + 1, q1, _ => simp [hget] at q1
      · match id, q1, q2 with
        | 0, q1, q2 =>
          cases q1; cases q2
          exact ⟨fun h => h, hiw.block_lt hob hg q3⟩
        | _ + 1, q1, _ => simp [hget] at q1
      · match i, j, q1, q2 with
        | 0, 0, _, _ => exact (hne rfl).elim
        | 0, _ + 1, _, q2 => simp [hget] at q2
        | _ + 1, _, q1, _ => simp [hget] at q1
    have hx : TVs [g] [.lf (.full 0)] [vb] := by
      refine ⟨⟨g, rfl, ?_⟩, trivial⟩
      obtain ⟨g', A, c, u1, u2⟩ := hsl
      rw [hg] at u1; cases u1
      exact ⟨g, A, c, rfl, u2⟩
    have hF' : f141_1 F b (fun l => (some ([TV.agg [LV.seq (.int .u32) 64 l]], []) : Option Res)) = some ([TV.agg [LV.seq (.int .u32) 64 (wds b)]], []) := spreadP hF hb
    have hS : S141_1 F noS [.lf (.full 0)] [some ⟨true, [.seq (.int .u8) 0 b]⟩] (fun rs _ => some (rs, [])) = some ([.agg [.seq (.int .u32) 64 (wds b)]], []) := Eq.trans (by kernel_rfl) hF'
    have hc := calls_of_summ (S141_1_ok F noS (noS_sound enter141)) hS hone hx
    have hrun : (execOp a.eval (opB 2)).run Try.prog w = .ok (.enter 141 #[vb]) w := by
      have hfv : a.eval (.func 141) = .func (.func 141) #[] #[] := rfl
      have hav : a.eval (.tmp 17) = vb := h17
      simp only [execOp, hop, resolve, hfv, Deferred.ofValue, Sem.run_bind, Sem.run_pure, Result.andThen_ok, invoke, Array.empty_append, Array.append_empty, List.map_toArray, List.map_cons, List.map_nil, hav, enter141]
    unfold Oper.wp
    rw [hrun, Oper.upon_enter]
    refine hc.mono ?_
    rintro e w' ⟨v, t, rfl, hr2, hext⟩
    have := agg_inv hr2
    subst this
    exact val (2, 18, .agg (u32v (wds b))) (by simp [VLb]) rfl (by kernel_rfl) w' hext
  | 3, _ =>
    have hop : (opB 3).op = .load 177 (.tmp 2) := by kernel_rfl
    have he : ERel m (mkEnv 109 [2] [.tv (.lf (.ptr 1 0))]) a := mkEnv_rel (by rw [hp.len]; exact hsz) hp.dfr [2] _ ⟨.inr (by
      rw [hkeep 2 (by omega) (by omega) (by omega) (by omega)]; exact h2), trivial⟩
    obtain ⟨av, v, q1, q2, q3⟩ := evPure_sound (P := Try.prog) (o := opB 3) (K := fun av => match av with | .tv v => some ([v], []) | _ => none) (r := ([.agg [.seq (.int .u32) 8 s]], [])) hiw he (by kernel_rfl)
    have hav : av = .tv (.agg [.seq (.int .u32) 8 s]) := by
      cases av with
      | tv v => simp only [Option.some.injEq, Prod.mk.injEq, List.cons.injEq, and_true] at q1; rw [q1]
      | tup l => cases q1
    subst hav
    obtain ⟨cs, rfl, x, y, hcs, ⟨_, rfl⟩, rfl⟩ := q2
    have : cs = u32v s := by apply Array.ext'; rw [hcs]; simp [u32v]
    subst this
    refine wp_of_ok (q3 w (Ext.refl w)) ?_
    exact val (3, 19, .agg (u32v s)) (by simp [VLb]) rfl (by kernel_rfl) w (Ext.refl w)
  | 4, _ =>
    have hop : (opB 4).op = .alloc 182 := by kernel_rfl
    obtain ⟨Z, hZ, hrun⟩ := alloc_new (a := a) (w := w) hop (show zeroE Try.prog 182 = some [.seq (.int .u32) 64 (List.replicate 64 0)] by kernel_rfl) (n := 64) (by kernel_rfl)
    exact wp_of_ok hrun (cal ⟨4, 7, 5, 182, u32v k64⟩ (by simp [CLb]) rfl (by kernel_rfl) Z (by rw [hZ, u32v_size]; rfl))
  | 5, _ =>
    have hop : (opB 5).op = .alloc 182 := by kernel_rfl
    obtain ⟨Z, hZ, hrun⟩ := alloc_new (a := a) (w := w) hop (show zeroE Try.prog 182 = some [.seq (.int .u32) 64 (List.replicate 64 0)] by kernel_rfl) (n := 64) (by kernel_rfl)
    exact wp_of_ok hrun (cal ⟨5, 8, 6, 182, u32v (wds b)⟩ (by simp [CLb]) rfl (by kernel_rfl) Z (by rw [hZ, u32v_size, wds_len]))
  | 6, _ =>
    have hop : (opB 6).op = .alloc 177 := by kernel_rfl
    obtain ⟨Z, hZ, hrun⟩ := alloc_new (a := a) (w := w) hop (show zeroE Try.prog 177 = some [.seq (.int .u32) 8 (List.replicate 8 0)] by kernel_rfl) (n := 8) (by kernel_rfl)
    exact wp_of_ok hrun (cal ⟨6, 9, 7, 177, u32v s⟩ (by simp [CLb]) rfl (by kernel_rfl) Z (by rw [hZ, u32v_size, hs]))
  | 7, _ =>
    have hl := waits1_spec (i := 7) (j := 0) (by omega) (by kernel_rfl) hr
    exact cst ⟨4, 7, 5, 182, u32v k64⟩ (by simp [CLb]) 16 64 rfl (by kernel_rfl) (by kernel_rfl) (by kernel_rfl) (by rw [u32v_size]; rfl) ⟨(Try.prog.info? 182).getD default, by kernel_rfl, by kernel_rfl⟩
      (hp.vals (0, 16, .agg (u32v k64)) (by simp [VLb]) hl) (lf _)
  | 8, _ =>
    have hl := waits1_spec (i := 8) (j := 2) (by omega) (by kernel_rfl) hr
    exact cst ⟨5, 8, 6, 182, u32v (wds b)⟩ (by simp [CLb]) 18 64 rfl (by kernel_rfl) (by kernel_rfl) (by kernel_rfl) (by rw [u32v_size, wds_len]) ⟨(Try.prog.info? 182).getD default, by kernel_rfl, by kernel_rfl⟩
      (hp.vals (2, 18, .agg (u32v (wds b))) (by simp [VLb]) hl) (lf _)
  | 9, _ =>
    have hl := waits1_spec (i := 9) (j := 3) (by omega) (by kernel_rfl) hr
    exact cst ⟨6, 9, 7, 177, u32v s⟩ (by simp [CLb]) 19 8 rfl (by kernel_rfl) (by kernel_rfl) (by kernel_rfl) (by rw [u32v_size, hs]) ⟨(Try.prog.info? 177).getD default, by kernel_rfl, by kernel_rfl⟩
      (hp.vals (3, 19, .agg (u32v s)) (by simp [VLb]) hl) (lf _)

theorem pt_inj {x b : Nat} (h : (Value.pointer (some (at_ (x, 0) 0))) = .pointer (some (at_ (b, 0) 0))) : x = b := by
  injection h with h; injection h with h; simp only [at_, Addr.mk.injEq] at h; exact h.1

/-- One more object, whose block is no other one's. -/
theorem add_block {G : Ctx} {m : GM} {h : Heap} {w w0 : World} (hi : Inv G m h w) (hw : G.w0.heap.size ≤ w0.heap.size) {es : List LV} {V : Array Value} {t : TypeId} {nb : Nat} (hnb : w0.heap.size ≤ nb) (hg : w.heap[nb]? = some (.cells V t (0, 0)))
    (ho : OCells m es V.toList) (hd : ∀ (j : Nat) oj gj c, hget h j = some oj → oj.ro = false → m[j]? = some gj → gj.addr = some c → c.1 ≠ nb) :
    Inv G (m ++ [ghOf (some (nb, 0)) V.size es]) (h ++ [some ⟨false, es⟩]) w := by
  refine hi.add ⟨ghOf_seq _ _ _, V.toList, ho.mono (pre_append m _), .inr ⟨_, V, t, (0, 0), rfl, hg, rfl, by simp [ghOf], fun j hj => by simp, fun _ => .inl rfl⟩⟩ (fun b hb => ?_) (fun _ b hb j oj gj c hj hro hgj hc => ?_)
  · cases hb; exact .inr (Nat.le_trans hw hnb)
  · cases hb; exact hd j oj gj c hj hro hgj hc

set_option maxRecDepth 100000 in
/-- The region, whatever order is picked. -/
theorem regB_wp {F : Nat} (hF : 100 ≤ F) {G : Ctx} {m : GM} {ro : Bool} {b s z : List Int} {w : World} {a : Act} (hb : 64 ≤ b.length) (hs : s.length = 8) (hi : Inv G m (hB ro b s z) w)
    (hvb : LRel m (.full 0) (a.tmps.getD 1 undef)) (h2 : TVRel m (.lf (.ptr 1 0)) (a.tmps.getD 2 undef)) (h4 : TVRel m (.lf (.ptr 2 0)) (a.tmps.getD 4 undef)) (hsz : 109 ≤ a.tmps.size) (hdf : a.defers = []) {id : Nat}
    {Q : Exit → Act → World → Prop}
    (hq : ∀ m' a' w', Inv G m' (hB ro b s z ++ [some ⟨false, [.seq (.int .u32) 64 k64]⟩] ++ [some ⟨false, [.seq (.int .u32) 64 (wds b)]⟩] ++ [some ⟨false, [.seq (.int .u32) 8 s]⟩]) w' → Pre m m' →
      SlotsRel m' a' [2, 4, 5, 6, 7] [.tv (.lf (.ptr 1 0)), .tv (.lf (.ptr 2 0)), .tv (.lf (.ptr 3 0)), .tv (.lf (.ptr 4 0)), .tv (.lf (.ptr 5 0))] → 109 ≤ a'.tmps.size → a'.defers = [] → Q .normal a' w') :
    (Code.region id ops130 true).wp Try.prog Q a w := by
  refine wp_region_any (by kernel_rfl) ?_
  have hi' := hi.ext (Ext.drew w)
  refine wpAny_inv (PHI { w with drawn := w.drawn + 1 } a (VLb b s (a.tmps.getD 1 undef)) (CLb b s)) opsB_back (regB_step hF hb hs hi' rfl hvb h2 hsz) ?_ _ _ _ _ (by simp) (by rw [unl_none _ _ (Nat.le_refl _)]; exact Nat.le_refl _) ?_
  · intro L a' w' hL hp hall
    rw [opsB_size] at hL hall
    have hLt : ∀ j, j < 10 → L.getD j false = true := fun j hj => by
      have := hall j hj
      have hj2 : j < L.size := by omega
      simp [hj2] at this ⊢; exact this
    have hm3 : m.length = 3 := hi.len
    have hiw := hi'.ext hp.ext
    obtain ⟨b5, p5, n5, blk5, c5, z5, v5⟩ := hp.cells ⟨4, 7, 5, 182, u32v k64⟩ (by simp [CLb]) (hLt 4 (by omega))
    obtain ⟨b6, p6, n6, blk6, c6, z6, v6⟩ := hp.cells ⟨5, 8, 6, 182, u32v (wds b)⟩ (by simp [CLb]) (hLt 5 (by omega))
    obtain ⟨b7, p7, n7, blk7, c7, z7, v7⟩ := hp.cells ⟨6, 9, 7, 177, u32v s⟩ (by simp [CLb]) (hLt 6 (by omega))
    have q56 := hp.dist ⟨4, 7, 5, 182, u32v k64⟩ (by simp [CLb]) ⟨5, 8, 6, 182, u32v (wds b)⟩ (by simp [CLb]) (by simp) (hLt 4 (by omega)) (hLt 5 (by omega)) b5 b6 p5 p6
    have q57 := hp.dist ⟨4, 7, 5, 182, u32v k64⟩ (by simp [CLb]) ⟨6, 9, 7, 177, u32v s⟩ (by simp [CLb]) (by simp) (hLt 4 (by omega)) (hLt 6 (by omega)) b5 b7 p5 p7
    have q67 := hp.dist ⟨5, 8, 6, 182, u32v (wds b)⟩ (by simp [CLb]) ⟨6, 9, 7, 177, u32v s⟩ (by simp [CLb]) (by simp) (hLt 5 (by omega)) (hLt 6 (by omega)) b6 b7 p6 p7
    rw [v5 (hLt 7 (by omega))] at c5
    rw [v6 (hLt 8 (by omega))] at c6
    rw [v7 (hLt 9 (by omega))] at c7
    have hG : G.w0.heap.size ≤ ({ w with drawn := w.drawn + 1 } : World).heap.size := hi'.size
    have old : ∀ (j : Nat) oj gj c, hget (hB ro b s z) j = some oj → m[j]? = some gj → gj.addr = some c → c.1 < ({ w with drawn := w.drawn + 1 } : World).heap.size := fun j oj gj c q1 q2 q3 => hi'.block_lt q1 q2 q3
    have oc : ∀ (m : GM) (k : Nat) (l : List Int), (k = 0 ∨ l.length = k) → OCells m [.seq (.int .u32) k l] (u32v l).toList := fun m k l hk => ⟨cvs (.int .u32) l, [], by simp, ⟨hk, rfl⟩, rfl⟩
    have i1 := add_block hiw hG n5 c5 (oc m 64 k64 (.inr rfl)) (fun j oj gj c q1 q2 q3 q4 => Nat.ne_of_lt (Nat.lt_of_lt_of_le (old j oj gj c q1 q3 q4) n5))
    have i2 := add_block i1 hG n6 c6 (oc _ 64 (wds b) (.inr (wds_len b))) (fun j oj gj c q1 q2 q3 q4 => by
      rcases hget_app q1 with ⟨hj, q1⟩ | ⟨hj, _⟩
      · exact Nat.ne_of_lt (Nat.lt_of_lt_of_le (old j oj gj c q1 (gm_app_old (by rw [hm3]; exact hj) q3) q4) n6)
      · subst hj
        have : (m ++ [ghOf (some (b5, 0)) (u32v k64).size [.seq (.int .u32) 64 k64]])[(hB ro b s z).length]? = some (ghOf (some (b5, 0)) (u32v k64).size [.seq (.int .u32) 64 k64]) := by
          rw [show (hB ro b s z).length = m.length from hm3.symm]; exact gm_app_new
        rw [this] at q3; cases q3; cases q4; exact q56)
    have i3 := add_block i2 hG n7 c7 (oc _ 8 s (.inr hs)) (fun j oj gj c q1 q2 q3 q4 => by
      rcases hget_app q1 with ⟨hj, q1⟩ | ⟨hj, _⟩
      · have q3 := gm_app_old (by rw [List.length_append, hm3]; exact hj) q3
        rcases hget_app q1 with ⟨hj, q1⟩ | ⟨hj, _⟩
        · exact Nat.ne_of_lt (Nat.lt_of_lt_of_le (old j oj gj c q1 (gm_app_old (by rw [hm3]; exact hj) q3) q4) n7)
        · subst hj
          have : (m ++ [ghOf (some (b5, 0)) (u32v k64).size [.seq (.int .u32) 64 k64]])[(hB ro b s z).length]? = some (ghOf (some (b5, 0)) (u32v k64).size [.seq (.int .u32) 64 k64]) := by
            rw [show (hB ro b s z).length = m.length from hm3.symm]; exact gm_app_new
          rw [this] at q3; cases q3; cases q4; exact q57
      · subst hj
        have : ((m ++ [ghOf (some (b5, 0)) (u32v k64).size [.seq (.int .u32) 64 k64]]) ++ [ghOf (some (b6, 0)) (u32v (wds b)).size [.seq (.int .u32) 64 (wds b)]])[(hB ro b s z ++ [some (⟨false, [.seq (.int .u32) 64 k64]⟩ : Ob)]).length]? = some (ghOf (some (b6, 0)) (u32v (wds b)).size [.seq (.int .u32) 64 (wds b)]) := by
          rw [show (hB ro b s z ++ [some (⟨false, [.seq (.int .u32) 64 k64]⟩ : Ob)]).length = (m ++ [ghOf (some (b5, 0)) (u32v k64).size [.seq (.int .u32) 64 k64]]).length by simp [hm3, hB]]; exact gm_app_new
        rw [this] at q3; cases q3; cases q4; exact q67)
    have k2 : a'.tmps.getD 2 undef = a.tmps.getD 2 undef := hp.keep 2 (by simp [VLb]) (by simp [CLb])
    have k4 : a'.tmps.getD 4 undef = a.tmps.getD 4 undef := hp.keep 4 (by simp [VLb]) (by simp [CLb])
    refine hq _ a' w' i3 (((pre_append _ _).trans (pre_append _ _)).trans (pre_append _ _)) ?_ (by rw [hp.len]; exact hsz) hp.dfr
    refine ⟨.inr ?_, .inr ?_, .inr ?_, .inr ?_, .inr ?_, trivial⟩
    · rw [k2]; exact TVRel.mono (((pre_append _ _).trans (pre_append _ _)).trans (pre_append _ _)) h2
    · rw [k4]; exact TVRel.mono (((pre_append _ _).trans (pre_append _ _)).trans (pre_append _ _)) h4
    · exact ⟨_, _, by rw [List.append_assoc, List.append_assoc, List.getElem?_append_right (by omega), hm3]; rfl, rfl, p5⟩
    · exact ⟨_, _, by rw [List.append_assoc, List.append_assoc, List.getElem?_append_right (by omega), hm3]; rfl, rfl, p6⟩
    · exact ⟨_, _, by rw [List.append_assoc, List.append_assoc, List.getElem?_append_right (by omega), hm3]; rfl, rfl, p7⟩
  · have hnone : ∀ j, (Array.replicate ops130.size false).getD j false = false := fun j => by
      simp only [Array.getD_eq_getD_getElem?, Array.getElem?_replicate]; split <;> rfl
    refine ⟨Ext.refl _, hdf, rfl, fun _ _ _ => rfl, fun p _ hl => ?_, fun c _ hl => ?_, fun c _ hl => ?_, fun c _ d _ _ hl => ?_⟩ <;> (rw [hnone] at hl; cases hl)


/-- A block behind the numbers: as the code reckons it. -/
noncomputable def f130_1 {β : Type} (F : Nat) (a1 : List Int) (a2 : List Int) (K0 : List Int → Option β) : Option β :=
  cond (decide (100 ≤ F ∧ 64 ≤ a2.length)) (f130_0 F a2 a1 [0, 0, 0, 0, 0, 0, 0, 0] k64 (wds a2) a1 K0) none
def sh130_1 : Sh := ⟨[.agg [.seq (.int .u32) 8], .lf (.full 0)], [some ⟨none, [.seq (.int .u8) 0]⟩]⟩
noncomputable def S130_1 (F : Nat) (o : Summ) : Summ := mkS sh130_1 (fun d K => f130_1 F d.1.1.1 d.2.1.2.1 (fun (y0 : List Int) => K [.agg [.seq (.int .u32) 8 y0]] [some ⟨d.2.1.1, [.seq (.int .u8) 0 d.2.1.2.1]⟩])) o

noncomputable def ops0B : Array Oper := match cL code130 with | .region _ ops _ => ops | _ => #[]
theorem codeB : code130 = .seq (.region 0 ops0B false) (.seq (.region 1 ops130 true) rest130) := by kernel_rfl

def envB (s : List Int) : Env := eset (eset (argEnv 109 [.agg [.seq (.int .u32) 8 s], .lf (.full 0)]) 2 (.tv (.lf (.ptr 1 0)))) 4 (.tv (.lf (.ptr 2 0)))

set_option maxRecDepth 100000 in
theorem reg0B (F : Nat) (ro : Bool) (b s : List Int) (K0 : Env → Heap → Option Res) :
    evOps Try.prog (T130_0 F) ops0B.toList ops0B.toList (argEnv 109 [.agg [.seq (.int .u32) 8 s], .lf (.full 0)]) [some ⟨ro, [.seq (.int .u8) 0 b]⟩] K0 = K0 (envB s) (hB ro b s [0, 0, 0, 0, 0, 0, 0, 0]) := by kernel_rfl

theorem ntB : Try.f130.ntmps = 109 := by kernel_rfl
theorem scB : scopesOf rest130 = [] := by kernel_rfl

set_option maxRecDepth 100000 in
theorem blkB {F : Nat} (hF : 100 ≤ F) {ro : Bool} {b s : List Int} (hb : 64 ≤ b.length) {K : KF} {r : Res}
    (he : f130_0 F b s [0, 0, 0, 0, 0, 0, 0, 0] k64 (wds b) s (fun (y0 : List Int) => K [.agg [.seq (.int .u32) 8 y0]] [some ⟨ro, [.seq (.int .u8) 0 b]⟩]) = some r) :
    Contract Try.prog 130 [.agg [.seq (.int .u32) 8 s], .lf (.full 0)] [some ⟨ro, [.seq (.int .u8) 0 b]⟩] K r := by
  intro G m w cvs hw hi hx
  have hT := tabled130 F
  have hm : Try.prog.follows .mixedOrders = true := by kernel_rfl
  obtain ⟨hs, hv1⟩ : s.length = 8 ∧ True := by
    match cvs, hx with
    | v :: _, ⟨⟨cs, _, x, y, _, ⟨hl, _⟩, _⟩, _⟩ => exact ⟨hl.resolve_left (by omega), trivial⟩
  have hlm : m.length = 1 := hi.len
  refine calls_of_wp (fn := Try.f130) (c := code130) (by kernel_rfl) (by kernel_rfl) ?_
  rw [codeB]
  have he0 : ERel m (argEnv 109 [.agg [.seq (.int .u32) 8 s], .lf (.full 0)]) { tmps := cvs.toArray ++ Array.replicate (109 - cvs.toArray.size) undef, defers := [] } := argEnv_rel hx
  rw [ntB]
  refine wp_seq (wp_region_list (evOps_wp hT ops0B.toList (r := ([], [])) (K := fun env' h' => @ite _ (env' = envB s ∧ h' = hB ro b s [0, 0, 0, 0, 0, 0, 0, 0]) (Classical.propDecidable _) (some ([], [])) none) hi he0 (by rw [reg0B, if_pos ⟨rfl, rfl⟩]) ?_))
  intro env1 h1 m1 a1 w1 hk1 hi1 hp1 he1
  obtain ⟨rfl, rfl⟩ : env1 = envB s ∧ h1 = hB ro b s [0, 0, 0, 0, 0, 0, 0, 0] := by
    by_cases hq : env1 = envB s ∧ h1 = hB ro b s [0, 0, 0, 0, 0, 0, 0, 0]
    · exact hq
    · rw [if_neg hq] at hk1; cases hk1
  have g1 : LRel m1 (.full 0) (a1.tmps.getD 1 undef) := by
    rcases he1.val 1 with h0 | h0
    · exact h0.elim
    · exact h0
  have g2 : TVRel m1 (.lf (.ptr 1 0)) (a1.tmps.getD 2 undef) := by
    rcases he1.val 2 with h0 | h0
    · exact h0.elim
    · exact h0
  have g4 : TVRel m1 (.lf (.ptr 2 0)) (a1.tmps.getD 4 undef) := by
    rcases he1.val 4 with h0 | h0
    · exact h0.elim
    · exact h0
  refine wp_seq (regB_wp hF hb hs hi1 g1 g2 g4 he1.len he1.dfr ?_)
  intro m2 a2 w2 hi2 hp2 hsl hsz2 hdf2
  have hpre2 : Pre m m2 := hp1.trans hp2
  have hlm2 : 1 ≤ m2.length := by rw [hi2.len]; simp [hB]
  generalize wds b = W at he hi2
  generalize k64 = KK at he hi2
  have hheap : (hB ro b s [0, 0, 0, 0, 0, 0, 0, 0] ++ [some (⟨false, [.seq (.int .u32) 64 KK]⟩ : Ob)] ++ [some ⟨false, [.seq (.int .u32) 64 W]⟩] ++ [some ⟨false, [.seq (.int .u32) 8 s]⟩]) =
    encH sh130_0.h ((ro, b, ()), ((), s, ()), ((), [0, 0, 0, 0, 0, 0, 0, 0], ()), ((), KK, ()), ((), W, ()), ((), s, ()), ()) := by kernel_rfl
  rw [hheap] at hi2
  have hev := (E130_0 F ((), ((ro, b, ()), ((), s, ()), ((), [0, 0, 0, 0, 0, 0, 0, 0], ()), ((), KK, ()), ((), W, ()), ((), s, ()), ())) K).trans he
  have hl : LoopsOK Try.prog (T130_0 F) 109 1 (LT130_0 F) (loopsOf rest130) := by
    have := looped130 F
    rw [codeB] at this
    exact this
  refine evC_wp hm hT rest130 hl (by rw [scB]; exact scopesOK_nil) hlm2 hi2 (mkEnv_rel hsz2 hdf2 _ _ hsl) hev ?_
  intro e env' h' m' a' w' hK hi' hp he'
  have hpin : Pin 1 m m' := (Pin.of_pre (by omega) hpre2).trans hp
  have fin : ∀ {q : Option (List TV)}, resVals Try.prog env' h' Try.f130.results.toList = q → (match q with | some vs => normF 1 vs h' K | none => none) = some r →
      a'.defers = [] ∧ ∃ v, (results Try.f130 a'.tmps).run Try.prog w' = .ok v w' ∧ ∃ rs h', K rs h' = some r ∧ ∃ v' t, Ending.returned v = .returned v' ∧ ResRel (m ++ t) rs v' ∧ Inv G (m ++ t) h' w' := by
    intro q hq hk
    cases q with
    | none => cases hk
    | some vs1 =>
      obtain ⟨xs1, h1, h2⟩ := results_of (fn := Try.f130) hi' he' hq
      simp only [normF_eq] at hk
      obtain ⟨rs, h3, m3, q1, q2, q3, q4, q5⟩ := normVs_sound hi' hpin.1 h1 hk
      have hpre : m3 = m ++ m3.drop 1 := by
        apply List.ext_getElem?
        intro i
        by_cases hlt : i < 1
        · rw [List.getElem?_append_left (by omega), q5 i hlt, hpin.2 i hlt]
        · rw [List.getElem?_append_right (by omega), List.getElem?_drop, hlm]
          congr 1; omega
      refine ⟨he'.dfr, _, h2, rs, h3, q1, _, m3.drop 1, rfl, ?_, ?_⟩
      · rw [← hpre]; exact resRel_of q3
      · rw [← hpre]; exact q2
  cases e with
  | normal => exact fin rfl hK
  | ret => exact fin rfl hK
  | exit i => cases hK
  | goto i => cases hK


theorem S130_1_ok (F : Nat) (o : Summ) (ho : SoundFn Try.prog 130 o) : SoundFn Try.prog 130 (S130_1 F o) := by
  refine ⟨ho.enter, fun vs h K r he => ?_⟩
  unfold S130_1 mkS at he
  split at he
  rotate_left
  · exact ho.ok vs h K r he
  rename_i dv dh ha hb'
  have e1 := decT_enc _ _ _ ha
  have e2 := decH_enc _ _ _ hb'
  obtain ⟨⟨s, _⟩, _, _⟩ := dv
  obtain ⟨⟨ro, b, _⟩, _⟩ := dh
  have e1 : vs = [.agg [.seq (.int .u32) 8 s], .lf (.full 0)] := e1
  have e2 : h = [some ⟨ro, [.seq (.int .u8) 0 b]⟩] := e2
  subst e1
  subst e2
  have he : f130_1 F s b (fun (y0 : List Int) => K [.agg [.seq (.int .u32) 8 y0]] [some ⟨ro, [.seq (.int .u8) 0 b]⟩]) = some r := he
  unfold f130_1 at he
  obtain ⟨⟨hF, hb⟩, he⟩ := dec_of he
  exact blkB hF hb he

end Go.Proofs.Ytillbabmlfjegaa.X
end

section
namespace Go.Proofs.Ytillbabmlfjegaa.X
open Go Go.Proofs.Ytillbabmlfjegaa.Ev Go.Proofs
set_option linter.unusedVariables false
/-! sha.Hash).Write -/
noncomputable def f116_1_l3 {β : Type} (F : Nat) (v2 : Int) (v3 : List Int) (K0 : List Int → List Int → Option β) : Nat → List Int → List Int → Option β
  | 0, _, _ => none
  | k + 1, v1, v4 => cond (decide (((v4.length : Nat) : Int) ≥ 64)) (cond (decide ((0 : Int) ≤ (0 : Int) ∧ (0 : Int) ≤ (64 : Int) ∧ (64 : Int) ≤ ((v4.length : Nat) : Int))) (f130_1 F v1 ((v4.drop 0).take 64) (fun x5 => cond (decide ((0 : Int) ≤ (64 : Int) ∧ (64 : Int) ≤ ((v4.length : Nat) : Int) ∧ ((v4.length : Nat) : Int) ≤ ((v4.length : Nat) : Int))) (cond (decide ((0 + (((v4.drop 64).take ((((v4.length : Nat) : Int) - 64).toNat)).length)) * 1 ≤ 70368744177664)) (f116_1_l3 F v2 v3 K0 k x5 ([] ++ ((v4.drop 64).take ((((v4.length : Nat) : Int) - 64).toNat)))) none) none) ) none) (K0 v1 v4)
noncomputable def f116_1 {β : Type} (F : Nat) (a1 : List Int) (a2 : Int) (a3 : List Int) (a4 : List Int) (K0 : List Int → Int → List Int → Option β) : Option β := cond (decide ((a3.length + a4.length) * 1 ≤ 70368744177664)) (f116_1_l3 F (IntKind.u64.wrap (a2 + (IntKind.u64.wrap ((a4.length : Nat) : Int)))) a4 (fun x6 x7 => K0 x6 (IntKind.u64.wrap (a2 + (IntKind.u64.wrap ((a4.length : Nat) : Int)))) x7) F a1 (a3 ++ a4)) none
def sh116_1 : Sh := ⟨[.lf (.ptr 0 0), .lf (.full 2)], [some ⟨some false, [.seq (.int .u32) 8, .full 1, .int .u64]⟩, some ⟨some false, [.seq (.int .u8) 0]⟩, some ⟨none, [.seq (.int .u8) 0]⟩]⟩
noncomputable def S116_1 (F : Nat) (o : Summ) : Summ := mkS sh116_1 (fun d K => f116_1 F d.2.1.2.1 d.2.1.2.2.2.1 d.2.2.1.2.1 d.2.2.2.1.2.1 (fun (y0 : List Int) (y1 : Int) (y3 : List Int) => K [] [some ⟨false, [.seq (.int .u32) 8 y0, .full 3, .int .u64 y1]⟩, none, some ⟨d.2.2.2.1.1, [.seq (.int .u8) 0 d.2.2.2.1.2.1]⟩, some ⟨false, [.seq (.int .u8) 0 y3]⟩])) o
noncomputable def code116 : Code := bodyOf Try.f116
noncomputable def b116_0 : Code := cB (cB (cR (cR (cR (code116)))))
theorem scopes116 : scopesOf code116 = [] := by kernel_rfl
theorem loops116 : loopsOf code116 = [b116_0] := by kernel_rfl
theorem enter116 : ∀ args w, (callFunc 116 args).run Try.prog w = .ok (.enter 116 args) w := enter_of (fn := Try.f116) (by kernel_rfl) (by kernel_rfl) (by kernel_rfl)
noncomputable def T116_1 (F : Nat) : FuncId → Option Summ := tab [(130, (S130_1 F noS))]
def sh116_1_l3 : Sh := ⟨[.lf (.ptr 0 0)], [some ⟨some false, [.seq (.int .u32) 8, .full 3, .int .u64]⟩, none, some ⟨none, [.seq (.int .u8) 0]⟩, some ⟨some false, [.seq (.int .u8) 0]⟩]⟩
noncomputable def G116_1_3 (F k : Nat) : LoopS := mkG sh116_1_l3 [0] (outT [(.exit 0, [])]) (fun d K => f116_1_l3 F d.2.1.2.2.2.1 d.2.2.2.1.2.1 (fun (y0 : List Int) (y3 : List Int) => K (.exit 0) [] [some ⟨false, [.seq (.int .u32) 8 y0, .full 3, .int .u64 d.2.1.2.2.2.1]⟩, none, some ⟨d.2.2.2.1.1, [.seq (.int .u8) 0 d.2.2.2.1.2.1]⟩, some ⟨false, [.seq (.int .u8) 0 y3]⟩]) k d.2.1.2.1 d.2.2.2.2.1.2.1)
noncomputable def LT116_1 (F : Nat) : Nat → Option LoopS := ltab [(3, G116_1_3 F F)]
theorem L116_1_3g (F k : Nat) (c130_1 : List Int → List Int → (List Int → Option Res) → Option Res)  (l3 : Int → List Int → (List Int → List Int → Option Res) → Nat → List Int → List Int → Option Res) (X3 : LoopS) (d : sh116_1_l3.den) (K : KL) : (fun (v2 : Int) (v3 : List Int) (K0 : (List Int → List Int → Option Res)) (k : Nat) (v1 : List Int) (v4 : List Int) => cond (decide (((v4.length : Nat) : Int) ≥ 64)) (cond (decide ((0 : Int) ≤ (0 : Int) ∧ (0 : Int) ≤ (64 : Int) ∧ (64 : Int) ≤ ((v4.length : Nat) : Int))) (c130_1 v1 ((v4.drop 0).take 64) (fun x5 => cond (decide ((0 : Int) ≤ (64 : Int) ∧ (64 : Int) ≤ ((v4.length : Nat) : Int) ∧ ((v4.length : Nat) : Int) ≤ ((v4.length : Nat) : Int))) (cond (decide ((0 + (((v4.drop 64).take ((((v4.length : Nat) : Int) - 64).toNat)).length)) * 1 ≤ 70368744177664)) (l3 v2 v3 K0 k x5 ([] ++ ((v4.drop 64).take ((((v4.length : Nat) : Int) - 64).toNat)))) none) none) ) none) (K0 v1 v4)) d.2.1.2.2.2.1 d.2.2.2.1.2.1 (fun (y0 : List Int) (y3 : List Int) => K (.exit 0) [] [some ⟨false, [.seq (.int .u32) 8 y0, .full 3, .int .u64 d.2.1.2.2.2.1]⟩, none, some ⟨d.2.2.2.1.1, [.seq (.int .u8) 0 d.2.2.2.1.2.1]⟩, some ⟨false, [.seq (.int .u8) 0 y3]⟩]) k d.2.1.2.1 d.2.2.2.2.1.2.1 = roundOf Try.prog (tab [(130, (mkS sh130_1 (fun d K => c130_1 d.1.1.1 d.2.1.2.1 (fun (y0 : List Int) => K [.agg [.seq (.int .u32) 8 y0]] [some ⟨d.2.1.1, [.seq (.int .u8) 0 d.2.1.2.1]⟩])) noS))]) 54 3 (ltab [(3, X3)]) (mkG sh116_1_l3 [0] (outT [(.exit 0, [])]) (fun d K => l3 d.2.1.2.2.2.1 d.2.2.2.1.2.1 (fun (y0 : List Int) (y3 : List Int) => K (.exit 0) [] [some ⟨false, [.seq (.int .u32) 8 y0, .full 3, .int .u64 d.2.1.2.2.2.1]⟩, none, some ⟨d.2.2.2.1.1, [.seq (.int .u8) 0 d.2.2.2.1.2.1]⟩, some ⟨false, [.seq (.int .u8) 0 y3]⟩]) k d.2.1.2.1 d.2.2.2.2.1.2.1)) b116_0 (encT sh116_1_l3.vs d.1) (encH sh116_1_l3.h d.2) K := by kernel_rfl
theorem L116_1_3 (F : Nat) : LoopOK Try.prog (T116_1 F) 54 3 (LT116_1 F) (G116_1_3 F F) b116_0 :=
  loopOK_of (s := sh116_1_l3) (live := [0]) (out := (outT [(.exit 0, [])])) (fun k d K => f116_1_l3 F d.2.1.2.2.2.1 d.2.2.2.1.2.1 (fun (y0 : List Int) (y3 : List Int) => K (.exit 0) [] [some ⟨false, [.seq (.int .u32) 8 y0, .full 3, .int .u64 d.2.1.2.2.2.1]⟩, none, some ⟨d.2.2.2.1.1, [.seq (.int .u8) 0 d.2.2.2.1.2.1]⟩, some ⟨false, [.seq (.int .u8) 0 y3]⟩]) k d.2.1.2.1 d.2.2.2.2.1.2.1) F (fun d K => by kernel_rfl)  (fun k d K => Eq.mp (by kernel_rfl) (L116_1_3g F k (f130_1 F)  (f116_1_l3 F) (G116_1_3 F F) d K))
theorem E116_1g (F : Nat) (c130_1 : List Int → List Int → (List Int → Option Res) → Option Res) (l3 : Int → List Int → (List Int → List Int → Option Res) → Nat → List Int → List Int → Option Res)  (d : sh116_1.den) (K : KF) : evBody Try.prog (tab [(130, (mkS sh130_1 (fun d K => c130_1 d.1.1.1 d.2.1.2.1 (fun (y0 : List Int) => K [.agg [.seq (.int .u32) 8 y0]] [some ⟨d.2.1.1, [.seq (.int .u8) 0 d.2.1.2.1]⟩])) noS))]) 54 3 (ltab [(3, mkG sh116_1_l3 [0] (outT [(.exit 0, [])]) (fun d K => l3 d.2.1.2.2.2.1 d.2.2.2.1.2.1 (fun (y0 : List Int) (y3 : List Int) => K (.exit 0) [] [some ⟨false, [.seq (.int .u32) 8 y0, .full 3, .int .u64 d.2.1.2.2.2.1]⟩, none, some ⟨d.2.2.2.1.1, [.seq (.int .u8) 0 d.2.2.2.1.2.1]⟩, some ⟨false, [.seq (.int .u8) 0 y3]⟩]) F d.2.1.2.1 d.2.2.2.2.1.2.1))]) code116 Try.f116.results.toList (encT sh116_1.vs d.1) (encH sh116_1.h d.2) K = (fun (a1 : List Int) (a2 : Int) (a3 : List Int) (a4 : List Int) (K0 : (List Int → Int → List Int → Option Res)) => cond (decide ((a3.length + a4.length) * 1 ≤ 70368744177664)) (l3 (IntKind.u64.wrap (a2 + (IntKind.u64.wrap ((a4.length : Nat) : Int)))) a4 (fun x6 x7 => K0 x6 (IntKind.u64.wrap (a2 + (IntKind.u64.wrap ((a4.length : Nat) : Int)))) x7) F a1 (a3 ++ a4)) none) d.2.1.2.1 d.2.1.2.2.2.1 d.2.2.1.2.1 d.2.2.2.1.2.1 (fun (y0 : List Int) (y1 : Int) (y3 : List Int) => K [] [some ⟨false, [.seq (.int .u32) 8 y0, .full 3, .int .u64 y1]⟩, none, some ⟨d.2.2.2.1.1, [.seq (.int .u8) 0 d.2.2.2.1.2.1]⟩, some ⟨false, [.seq (.int .u8) 0 y3]⟩]) := by kernel_rfl
theorem E116_1 (F : Nat) (d : sh116_1.den) (K : KF) : evBody Try.prog (T116_1 F) 54 3 (LT116_1 F) code116 Try.f116.results.toList (encT sh116_1.vs d.1) (encH sh116_1.h d.2) K = f116_1 F d.2.1.2.1 d.2.1.2.2.2.1 d.2.2.1.2.1 d.2.2.2.1.2.1 (fun (y0 : List Int) (y1 : Int) (y3 : List Int) => K [] [some ⟨false, [.seq (.int .u32) 8 y0, .full 3, .int .u64 y1]⟩, none, some ⟨d.2.2.2.1.1, [.seq (.int .u8) 0 d.2.2.2.1.2.1]⟩, some ⟨false, [.seq (.int .u8) 0 y3]⟩]) := Eq.mp (by kernel_rfl) (E116_1g F (f130_1 F) (f116_1_l3 F)  d K)
theorem S116_1_ok (F : Nat) (o : Summ) (ho : SoundFn Try.prog 116 o) : SoundFn Try.prog 116 (S116_1 F o) :=
  soundFn_of (fn := Try.f116) (c := code116) (by kernel_rfl) (tab_cons (S130_1_ok F _ (noS_sound enter130)) tab_nil) (by kernel_rfl) (by kernel_rfl) ho (by rw [loops116]; exact (loopsOK_cons (by kernel_rfl) (L116_1_3 F) loopsOK_nil)) (by rw [scopes116]; exact scopesOK_nil) (E116_1 F)
end Go.Proofs.Ytillbabmlfjegaa.X
end

section
namespace Go.Proofs.Ytillbabmlfjegaa.X
open Go Go.Proofs.Ytillbabmlfjegaa.Ev Go.Proofs
set_option linter.unusedVariables false
/-! sha.Hash).Sum -/
noncomputable def f117_1_l10 {β : Type} (F : Nat) (v1 : Nat) (v2 : Nat) (v3 : Nat) (v4 : Int) (v6 : List Int) (v7 : Int) (v8 : List Int) (K0 : List Int → Option β) : Nat → Int → List Int → Option β
  | 0, _, _ => none
  | k + 1, v5, v9 => cond (decide (v5 < 8)) (cond (decide (IntKind.i64.wrap (8 * v5) < 0)) none (cond (decide ((0 : Int) ≤ IntKind.i64.wrap ((IntKind.i64.wrap (((v2 : Nat) : Int) - 1)) - v5) ∧ IntKind.i64.wrap ((IntKind.i64.wrap (((v2 : Nat) : Int) - 1)) - v5) < ((v2 : Nat) : Int))) (cond (decide (v1 + ((IntKind.i64.wrap ((IntKind.i64.wrap (((v2 : Nat) : Int) - 1)) - v5)).toNat) < v9.length)) (f117_1_l10 F v1 v2 v3 v4 v6 v7 v8 K0 k (IntKind.i64.wrap (v5 + 1)) (v9.set (v1 + ((IntKind.i64.wrap ((IntKind.i64.wrap (((v2 : Nat) : Int) - 1)) - v5)).toNat)) (IntKind.u8.wrap (ishr .u64 v4 (IntKind.i64.wrap (8 * v5)))))) none) none)) (K0 v9)
noncomputable def f117_1_l15 {β : Type} (F : Nat) (v14 : List Int) (v15 : Int) (v16 : List Int) (v17 : List Int) (K0 : List Int → Option β) : Nat → Nat → Nat → Nat → List Int → Option β
  | 0, _, _, _, _ => none
  | k + 1, v11, v12, v13, v18 => cond (decide (((v12 : Nat) : Int) > 0)) (f130_1 F v18 ((v17.drop v11).take v12) (fun x19 => cond (decide ((0 : Int) ≤ (64 : Int) ∧ (64 : Int) ≤ ((v12 : Nat) : Int) ∧ ((v12 : Nat) : Int) ≤ ((v13 : Nat) : Int))) (f117_1_l15 F v14 v15 v16 v17 K0 k (v11 + 64) ((((v12 : Nat) : Int) - 64).toNat) (v13 - 64) x19) none) ) (K0 v18)
noncomputable def f117_1_l20 {β : Type} (F : Nat) (v21 : List Int) (v23 : List Int) (v24 : Int) (v25 : List Int) (K0 : List Int → Option β) : Nat → Int → List Int → Option β
  | 0, _, _ => none
  | k + 1, v22, v26 => cond (decide (v22 < 8)) (cond (decide ((0 : Int) ≤ v22 ∧ v22 < 8)) (cond (decide ((v26.length + 4) * 1 ≤ 70368744177664)) (f117_1_l20 F v21 v23 v24 v25 K0 k (IntKind.i64.wrap (v22 + 1)) (v26 ++ [IntKind.u8.wrap (ishr .u32 (v21.getD v22.toNat 0) 24), IntKind.u8.wrap (ishr .u32 (v21.getD v22.toNat 0) 16), IntKind.u8.wrap (ishr .u32 (v21.getD v22.toNat 0) 8), IntKind.u8.wrap (v21.getD v22.toNat 0)])) none) none) (K0 v26)
noncomputable def f117_1 {β : Type} (F : Nat) (a1 : List Int) (a2 : Int) (a3 : List Int) (K0 : ByteArray → Option β) : Option β := cond (decide ((0 : Int) ≤ ((min a3.length 64 : Nat) : Int) ∧ ((min a3.length 64 : Nat) : Int) < (64 : Int))) (cond (decide (0 + (((min a3.length 64 : Nat) : Int).toNat) < ((List.replicate 128 0).take 0 ++ (a3.take 64 ++ (List.replicate 128 0).drop (0 + (min a3.length 64)))).length)) (cond (decide (((min a3.length 64 : Nat) : Int) ≥ 56)) (f117_1_l10 F 0 128 128 (IntKind.u64.wrap (8 * a2)) a1 a2 a3 (fun x10 => f117_1_l15 F a1 a2 a3 x10 (fun x20 => f117_1_l20 F x20 a1 a2 a3 (fun x27 => K0 (ofInts x27)) F 0 []) F 0 128 128 a1) F 0 (((List.replicate 128 0).take 0 ++ (a3.take 64 ++ (List.replicate 128 0).drop (0 + (min a3.length 64)))).set (0 + (((min a3.length 64 : Nat) : Int).toNat)) 128)) (f117_1_l10 F 0 64 128 (IntKind.u64.wrap (8 * a2)) a1 a2 a3 (fun x28 => f117_1_l15 F a1 a2 a3 x28 (fun x29 => f117_1_l20 F x29 a1 a2 a3 (fun x30 => K0 (ofInts x30)) F 0 []) F 0 64 128 a1) F 0 (((List.replicate 128 0).take 0 ++ (a3.take 64 ++ (List.replicate 128 0).drop (0 + (min a3.length 64)))).set (0 + (((min a3.length 64 : Nat) : Int).toNat)) 128))) none) none
def sh117_1 : Sh := ⟨[.lf (.ptr 0 0)], [some ⟨none, [.seq (.int .u32) 8, .full 1, .int .u64]⟩, some ⟨none, [.seq (.int .u8) 0]⟩]⟩
noncomputable def S117_1 (F : Nat) (o : Summ) : Summ := mkS sh117_1 (fun d K => f117_1 F d.2.1.2.1 d.2.1.2.2.2.1 d.2.2.1.2.1 (fun (y0 : ByteArray) => K [.lf (.str y0)] [some ⟨d.2.1.1, [.seq (.int .u32) 8 d.2.1.2.1, .full 1, .int .u64 d.2.1.2.2.2.1]⟩, some ⟨d.2.2.1.1, [.seq (.int .u8) 0 d.2.2.1.2.1]⟩])) o
noncomputable def code117 : Code := bodyOf Try.f117
noncomputable def b117_0 : Code := cB (cB (cR (cL (cR (cR (cR (cR (cR (cR (cR (code117)))))))))))
noncomputable def b117_1 : Code := cB (cB (cL (cR (cR (cR (cR (cR (cR (cR (cR (cR (code117))))))))))))
noncomputable def b117_2 : Code := cB (cB (cR (cL (cR (cR (cR (cR (cR (cR (cR (cR (cR (cR (cR (code117)))))))))))))))
theorem scopes117 : scopesOf code117 = [] := by kernel_rfl
theorem loops117 : loopsOf code117 = [b117_0, b117_1, b117_2] := by kernel_rfl
theorem enter117 : ∀ args w, (callFunc 117 args).run Try.prog w = .ok (.enter 117 args) w := enter_of (fn := Try.f117) (by kernel_rfl) (by kernel_rfl) (by kernel_rfl)
noncomputable def T117_1 (F : Nat) : FuncId → Option Summ := tab [(130, (S130_1 F noS))]
def sh117_1_l10 : Sh := ⟨[.lf (.ptr 0 0), .lf (.sliceC 2 0), .lf (.int .u64), .lf (.int .i64)], [some ⟨none, [.seq (.int .u32) 8, .full 1, .int .u64]⟩, some ⟨none, [.seq (.int .u8) 0]⟩, some ⟨some false, [.seq (.int .u8) 0]⟩]⟩
noncomputable def G117_1_10 (F k : Nat) : LoopS := mkG sh117_1_l10 [0, 3, 5, 32] (outT [(.exit 0, [0, 3])]) (fun d K => f117_1_l10 F d.1.2.1.1 d.1.2.1.2.1 d.1.2.1.2.2 d.1.2.2.1 d.2.1.2.1 d.2.1.2.2.2.1 d.2.2.1.2.1 (fun (y6 : List Int) => K (.exit 0) [.tv (.lf (.ptr 0 0)), .tv (.lf (.slice 2 0 d.1.2.1.1 d.1.2.1.2.1 (some d.1.2.1.2.2)))] [some ⟨d.2.1.1, [.seq (.int .u32) 8 d.2.1.2.1, .full 1, .int .u64 d.2.1.2.2.2.1]⟩, some ⟨d.2.2.1.1, [.seq (.int .u8) 0 d.2.2.1.2.1]⟩, some ⟨false, [.seq (.int .u8) 0 y6]⟩]) k d.1.2.2.2.1 d.2.2.2.1.2.1)
def sh117_1_l15 : Sh := ⟨[.lf (.sliceC 2 0), .lf (.ptr 3 0)], [some ⟨none, [.seq (.int .u32) 8, .full 1, .int .u64]⟩, some ⟨none, [.seq (.int .u8) 0]⟩, some ⟨some false, [.seq (.int .u8) 0]⟩, some ⟨some false, [.seq (.int .u32) 8]⟩]⟩
noncomputable def G117_1_15 (F k : Nat) : LoopS := mkG sh117_1_l15 [3, 7] (outT [(.exit 2, [7])]) (fun d K => f117_1_l15 F d.2.1.2.1 d.2.1.2.2.2.1 d.2.2.1.2.1 d.2.2.2.1.2.1 (fun (y4 : List Int) => K (.exit 2) [.tv (.lf (.ptr 3 0))] [some ⟨d.2.1.1, [.seq (.int .u32) 8 d.2.1.2.1, .full 1, .int .u64 d.2.1.2.2.2.1]⟩, some ⟨d.2.2.1.1, [.seq (.int .u8) 0 d.2.2.1.2.1]⟩, some ⟨false, [.seq (.int .u8) 0 d.2.2.2.1.2.1]⟩, some ⟨false, [.seq (.int .u32) 8 y4]⟩]) k d.1.1.1 d.1.1.2.1 d.1.1.2.2 d.2.2.2.2.1.2.1)
def sh117_1_l20 : Sh := ⟨[.lf (.full 2), .agg [.seq (.int .u32) 8], .lf (.int .i64)], [some ⟨none, [.seq (.int .u32) 8, .full 1, .int .u64]⟩, some ⟨none, [.seq (.int .u8) 0]⟩, some ⟨some false, [.seq (.int .u8) 0]⟩]⟩
noncomputable def G117_1_20 (F k : Nat) : LoopS := mkG sh117_1_l20 [8, 60, 61] (outT [(.exit 4, [8])]) (fun d K => f117_1_l20 F d.1.2.1.1 d.2.1.2.1 d.2.1.2.2.2.1 d.2.2.1.2.1 (fun (y3 : List Int) => K (.exit 4) [.tv (.lf (.full 2))] [some ⟨d.2.1.1, [.seq (.int .u32) 8 d.2.1.2.1, .full 1, .int .u64 d.2.1.2.2.2.1]⟩, some ⟨d.2.2.1.1, [.seq (.int .u8) 0 d.2.2.1.2.1]⟩, some ⟨false, [.seq (.int .u8) 0 y3]⟩]) k d.1.2.2.1 d.2.2.2.1.2.1)
noncomputable def LT117_1 (F : Nat) : Nat → Option LoopS := ltab [(10, G117_1_10 F F), (15, G117_1_15 F F), (20, G117_1_20 F F)]
theorem L117_1_10g (F k : Nat) (c130_1 : List Int → List Int → (List Int → Option Res) → Option Res)  (l10 : Nat → Nat → Nat → Int → List Int → Int → List Int → (List Int → Option Res) → Nat → Int → List Int → Option Res) (X10 : LoopS) (X15 : LoopS) (X20 : LoopS) (d : sh117_1_l10.den) (K : KL) : (fun (v1 : Nat) (v2 : Nat) (v3 : Nat) (v4 : Int) (v6 : List Int) (v7 : Int) (v8 : List Int) (K0 : (List Int → Option Res)) (k : Nat) (v5 : Int) (v9 : List Int) => cond (decide (v5 < 8)) (cond (decide (IntKind.i64.wrap (8 * v5) < 0)) none (cond (decide ((0 : Int) ≤ IntKind.i64.wrap ((IntKind.i64.wrap (((v2 : Nat) : Int) - 1)) - v5) ∧ IntKind.i64.wrap ((IntKind.i64.wrap (((v2 : Nat) : Int) - 1)) - v5) < ((v2 : Nat) : Int))) (cond (decide (v1 + ((IntKind.i64.wrap ((IntKind.i64.wrap (((v2 : Nat) : Int) - 1)) - v5)).toNat) < v9.length)) (l10 v1 v2 v3 v4 v6 v7 v8 K0 k (IntKind.i64.wrap (v5 + 1)) (v9.set (v1 + ((IntKind.i64.wrap ((IntKind.i64.wrap (((v2 : Nat) : Int) - 1)) - v5)).toNat)) (IntKind.u8.wrap (ishr .u64 v4 (IntKind.i64.wrap (8 * v5)))))) none) none)) (K0 v9)) d.1.2.1.1 d.1.2.1.2.1 d.1.2.1.2.2 d.1.2.2.1 d.2.1.2.1 d.2.1.2.2.2.1 d.2.2.1.2.1 (fun (y6 : List Int) => K (.exit 0) [.tv (.lf (.ptr 0 0)), .tv (.lf (.slice 2 0 d.1.2.1.1 d.1.2.1.2.1 (some d.1.2.1.2.2)))] [some ⟨d.2.1.1, [.seq (.int .u32) 8 d.2.1.2.1, .full 1, .int .u64 d.2.1.2.2.2.1]⟩, some ⟨d.2.2.1.1, [.seq (.int .u8) 0 d.2.2.1.2.1]⟩, some ⟨false, [.seq (.int .u8) 0 y6]⟩]) k d.1.2.2.2.1 d.2.2.2.1.2.1 = roundOf Try.prog (tab [(130, (mkS sh130_1 (fun d K => c130_1 d.1.1.1 d.2.1.2.1 (fun (y0 : List Int) => K [.agg [.seq (.int .u32) 8 y0]] [some ⟨d.2.1.1, [.seq (.int .u8) 0 d.2.1.2.1]⟩])) noS))]) 81 2 (ltab [(10, X10), (15, X15), (20, X20)]) (mkG sh117_1_l10 [0, 3, 5, 32] (outT [(.exit 0, [0, 3])]) (fun d K => l10 d.1.2.1.1 d.1.2.1.2.1 d.1.2.1.2.2 d.1.2.2.1 d.2.1.2.1 d.2.1.2.2.2.1 d.2.2.1.2.1 (fun (y6 : List Int) => K (.exit 0) [.tv (.lf (.ptr 0 0)), .tv (.lf (.slice 2 0 d.1.2.1.1 d.1.2.1.2.1 (some d.1.2.1.2.2)))] [some ⟨d.2.1.1, [.seq (.int .u32) 8 d.2.1.2.1, .full 1, .int .u64 d.2.1.2.2.2.1]⟩, some ⟨d.2.2.1.1, [.seq (.int .u8) 0 d.2.2.1.2.1]⟩, some ⟨false, [.seq (.int .u8) 0 y6]⟩]) k d.1.2.2.2.1 d.2.2.2.1.2.1)) b117_0 (encT sh117_1_l10.vs d.1) (encH sh117_1_l10.h d.2) K := by kernel_rfl
theorem L117_1_10 (F : Nat) : LoopOK Try.prog (T117_1 F) 81 2 (LT117_1 F) (G117_1_10 F F) b117_0 :=
  loopOK_of (s := sh117_1_l10) (live := [0, 3, 5, 32]) (out := (outT [(.exit 0, [0, 3])])) (fun k d K => f117_1_l10 F d.1.2.1.1 d.1.2.1.2.1 d.1.2.1.2.2 d.1.2.2.1 d.2.1.2.1 d.2.1.2.2.2.1 d.2.2.1.2.1 (fun (y6 : List Int) => K (.exit 0) [.tv (.lf (.ptr 0 0)), .tv (.lf (.slice 2 0 d.1.2.1.1 d.1.2.1.2.1 (some d.1.2.1.2.2)))] [some ⟨d.2.1.1, [.seq (.int .u32) 8 d.2.1.2.1, .full 1, .int .u64 d.2.1.2.2.2.1]⟩, some ⟨d.2.2.1.1, [.seq (.int .u8) 0 d.2.2.1.2.1]⟩, some ⟨false, [.seq (.int .u8) 0 y6]⟩]) k d.1.2.2.2.1 d.2.2.2.1.2.1) F (fun d K => by kernel_rfl)  (fun k d K => Eq.mp (by kernel_rfl) (L117_1_10g F k (f130_1 F)  (f117_1_l10 F) (G117_1_10 F F) (G117_1_15 F F) (G117_1_20 F F) d K))
theorem L117_1_15g (F k : Nat) (c130_1 : List Int → List Int → (List Int → Option Res) → Option Res)  (l15 : List Int → Int → List Int → List Int → (List Int → Option Res) → Nat → Nat → Nat → Nat → List Int → Option Res) (X10 : LoopS) (X15 : LoopS) (X20 : LoopS) (d : sh117_1_l15.den) (K : KL) : (fun (v14 : List Int) (v15 : Int) (v16 : List Int) (v17 : List Int) (K0 : (List Int → Option Res)) (k : Nat) (v11 : Nat) (v12 : Nat) (v13 : Nat) (v18 : List Int) => cond (decide (((v12 : Nat) : Int) > 0)) (c130_1 v18 ((v17.drop v11).take v12) (fun x19 => cond (decide ((0 : Int) ≤ (64 : Int) ∧ (64 : Int) ≤ ((v12 : Nat) : Int) ∧ ((v12 : Nat) : Int) ≤ ((v13 : Nat) : Int))) (l15 v14 v15 v16 v17 K0 k (v11 + 64) ((((v12 : Nat) : Int) - 64).toNat) (v13 - 64) x19) none) ) (K0 v18)) d.2.1.2.1 d.2.1.2.2.2.1 d.2.2.1.2.1 d.2.2.2.1.2.1 (fun (y4 : List Int) => K (.exit 2) [.tv (.lf (.ptr 3 0))] [some ⟨d.2.1.1, [.seq (.int .u32) 8 d.2.1.2.1, .full 1, .int .u64 d.2.1.2.2.2.1]⟩, some ⟨d.2.2.1.1, [.seq (.int .u8) 0 d.2.2.1.2.1]⟩, some ⟨false, [.seq (.int .u8) 0 d.2.2.2.1.2.1]⟩, some ⟨false, [.seq (.int .u32) 8 y4]⟩]) k d.1.1.1 d.1.1.2.1 d.1.1.2.2 d.2.2.2.2.1.2.1 = roundOf Try.prog (tab [(130, (mkS sh130_1 (fun d K => c130_1 d.1.1.1 d.2.1.2.1 (fun (y0 : List Int) => K [.agg [.seq (.int .u32) 8 y0]] [some ⟨d.2.1.1, [.seq (.int .u8) 0 d.2.1.2.1]⟩])) noS))]) 81 2 (ltab [(10, X10), (15, X15), (20, X20)]) (mkG sh117_1_l15 [3, 7] (outT [(.exit 2, [7])]) (fun d K => l15 d.2.1.2.1 d.2.1.2.2.2.1 d.2.2.1.2.1 d.2.2.2.1.2.1 (fun (y4 : List Int) => K (.exit 2) [.tv (.lf (.ptr 3 0))] [some ⟨d.2.1.1, [.seq (.int .u32) 8 d.2.1.2.1, .full 1, .int .u64 d.2.1.2.2.2.1]⟩, some ⟨d.2.2.1.1, [.seq (.int .u8) 0 d.2.2.1.2.1]⟩, some ⟨false, [.seq (.int .u8) 0 d.2.2.2.1.2.1]⟩, some ⟨false, [.seq (.int .u32) 8 y4]⟩]) k d.1.1.1 d.1.1.2.1 d.1.1.2.2 d.2.2.2.2.1.2.1)) b117_1 (encT sh117_1_l15.vs d.1) (encH sh117_1_l15.h d.2) K := by kernel_rfl
theorem L117_1_15 (F : Nat) : LoopOK Try.prog (T117_1 F) 81 2 (LT117_1 F) (G117_1_15 F F) b117_1 :=
  loopOK_of (s := sh117_1_l15) (live := [3, 7]) (out := (outT [(.exit 2, [7])])) (fun k d K => f117_1_l15 F d.2.1.2.1 d.2.1.2.2.2.1 d.2.2.1.2.1 d.2.2.2.1.2.1 (fun (y4 : List Int) => K (.exit 2) [.tv (.lf (.ptr 3 0))] [some ⟨d.2.1.1, [.seq (.int .u32) 8 d.2.1.2.1, .full 1, .int .u64 d.2.1.2.2.2.1]⟩, some ⟨d.2.2.1.1, [.seq (.int .u8) 0 d.2.2.1.2.1]⟩, some ⟨false, [.seq (.int .u8) 0 d.2.2.2.1.2.1]⟩, some ⟨false, [.seq (.int .u32) 8 y4]⟩]) k d.1.1.1 d.1.1.2.1 d.1.1.2.2 d.2.2.2.2.1.2.1) F (fun d K => by kernel_rfl)  (fun k d K => Eq.mp (by kernel_rfl) (L117_1_15g F k (f130_1 F)  (f117_1_l15 F) (G117_1_10 F F) (G117_1_15 F F) (G117_1_20 F F) d K))
theorem L117_1_20g (F k : Nat) (c130_1 : List Int → List Int → (List Int → Option Res) → Option Res)  (l20 : List Int → List Int → Int → List Int → (List Int → Option Res) → Nat → Int → List Int → Option Res) (X10 : LoopS) (X15 : LoopS) (X20 : LoopS) (d : sh117_1_l20.den) (K : KL) : (fun (v21 : List Int) (v23 : List Int) (v24 : Int) (v25 : List Int) (K0 : (List Int → Option Res)) (k : Nat) (v22 : Int) (v26 : List Int) => cond (decide (v22 < 8)) (cond (decide ((0 : Int) ≤ v22 ∧ v22 < 8)) (cond (decide ((v26.length + 4) * 1 ≤ 70368744177664)) (l20 v21 v23 v24 v25 K0 k (IntKind.i64.wrap (v22 + 1)) (v26 ++ [IntKind.u8.wrap (ishr .u32 (v21.getD v22.toNat 0) 24), IntKind.u8.wrap (ishr .u32 (v21.getD v22.toNat 0) 16), IntKind.u8.wrap (ishr .u32 (v21.getD v22.toNat 0) 8), IntKind.u8.wrap (v21.getD v22.toNat 0)])) none) none) (K0 v26)) d.1.2.1.1 d.2.1.2.1 d.2.1.2.2.2.1 d.2.2.1.2.1 (fun (y3 : List Int) => K (.exit 4) [.tv (.lf (.full 2))] [some ⟨d.2.1.1, [.seq (.int .u32) 8 d.2.1.2.1, .full 1, .int .u64 d.2.1.2.2.2.1]⟩, some ⟨d.2.2.1.1, [.seq (.int .u8) 0 d.2.2.1.2.1]⟩, some ⟨false, [.seq (.int .u8) 0 y3]⟩]) k d.1.2.2.1 d.2.2.2.1.2.1 = roundOf Try.prog (tab [(130, (mkS sh130_1 (fun d K => c130_1 d.1.1.1 d.2.1.2.1 (fun (y0 : List Int) => K [.agg [.seq (.int .u32) 8 y0]] [some ⟨d.2.1.1, [.seq (.int .u8) 0 d.2.1.2.1]⟩])) noS))]) 81 2 (ltab [(10, X10), (15, X15), (20, X20)]) (mkG sh117_1_l20 [8, 60, 61] (outT [(.exit 4, [8])]) (fun d K => l20 d.1.2.1.1 d.2.1.2.1 d.2.1.2.2.2.1 d.2.2.1.2.1 (fun (y3 : List Int) => K (.exit 4) [.tv (.lf (.full 2))] [some ⟨d.2.1.1, [.seq (.int .u32) 8 d.2.1.2.1, .full 1, .int .u64 d.2.1.2.2.2.1]⟩, some ⟨d.2.2.1.1, [.seq (.int .u8) 0 d.2.2.1.2.1]⟩, some ⟨false, [.seq (.int .u8) 0 y3]⟩]) k d.1.2.2.1 d.2.2.2.1.2.1)) b117_2 (encT sh117_1_l20.vs d.1) (encH sh117_1_l20.h d.2) K := by kernel_rfl
theorem L117_1_20 (F : Nat) : LoopOK Try.prog (T117_1 F) 81 2 (LT117_1 F) (G117_1_20 F F) b117_2 :=
  loopOK_of (s := sh117_1_l20) (live := [8, 60, 61]) (out := (outT [(.exit 4, [8])])) (fun k d K => f117_1_l20 F d.1.2.1.1 d.2.1.2.1 d.2.1.2.2.2.1 d.2.2.1.2.1 (fun (y3 : List Int) => K (.exit 4) [.tv (.lf (.full 2))] [some ⟨d.2.1.1, [.seq (.int .u32) 8 d.2.1.2.1, .full 1, .int .u64 d.2.1.2.2.2.1]⟩, some ⟨d.2.2.1.1, [.seq (.int .u8) 0 d.2.2.1.2.1]⟩, some ⟨false, [.seq (.int .u8) 0 y3]⟩]) k d.1.2.2.1 d.2.2.2.1.2.1) F (fun d K => by kernel_rfl)  (fun k d K => Eq.mp (by kernel_rfl) (L117_1_20g F k (f130_1 F)  (f117_1_l20 F) (G117_1_10 F F) (G117_1_15 F F) (G117_1_20 F F) d K))
theorem E117_1g (F : Nat) (c130_1 : List Int → List Int → (List Int → Option Res) → Option Res) (l10 : Nat → Nat → Nat → Int → List Int → Int → List Int → (List Int → Option Res) → Nat → Int → List Int → Option Res) (l15 : List Int → Int → List Int → List Int → (List Int → Option Res) → Nat → Nat → Nat → Nat → List Int → Option Res) (l20 : List Int → List Int → Int → List Int → (List Int → Option Res) → Nat → Int → List Int → Option Res)  (d : sh117_1.den) (K : KF) : evBody Try.prog (tab [(130, (mkS sh130_1 (fun d K => c130_1 d.1.1.1 d.2.1.2.1 (fun (y0 : List Int) => K [.agg [.seq (.int .u32) 8 y0]] [some ⟨d.2.1.1, [.seq (.int .u8) 0 d.2.1.2.1]⟩])) noS))]) 81 2 (ltab [(10, mkG sh117_1_l10 [0, 3, 5, 32] (outT [(.exit 0, [0, 3])]) (fun d K => l10 d.1.2.1.1 d.1.2.1.2.1 d.1.2.1.2.2 d.1.2.2.1 d.2.1.2.1 d.2.1.2.2.2.1 d.2.2.1.2.1 (fun (y6 : List Int) => K (.exit 0) [.tv (.lf (.ptr 0 0)), .tv (.lf (.slice 2 0 d.1.2.1.1 d.1.2.1.2.1 (some d.1.2.1.2.2)))] [some ⟨d.2.1.1, [.seq (.int .u32) 8 d.2.1.2.1, .full 1, .int .u64 d.2.1.2.2.2.1]⟩, some ⟨d.2.2.1.1, [.seq (.int .u8) 0 d.2.2.1.2.1]⟩, some ⟨false, [.seq (.int .u8) 0 y6]⟩]) F d.1.2.2.2.1 d.2.2.2.1.2.1)), (15, mkG sh117_1_l15 [3, 7] (outT [(.exit 2, [7])]) (fun d K => l15 d.2.1.2.1 d.2.1.2.2.2.1 d.2.2.1.2.1 d.2.2.2.1.2.1 (fun (y4 : List Int) => K (.exit 2) [.tv (.lf (.ptr 3 0))] [some ⟨d.2.1.1, [.seq (.int .u32) 8 d.2.1.2.1, .full 1, .int .u64 d.2.1.2.2.2.1]⟩, some ⟨d.2.2.1.1, [.seq (.int .u8) 0 d.2.2.1.2.1]⟩, some ⟨false, [.seq (.int .u8) 0 d.2.2.2.1.2.1]⟩, some ⟨false, [.seq (.int .u32) 8 y4]⟩]) F d.1.1.1 d.1.1.2.1 d.1.1.2.2 d.2.2.2.2.1.2.1)), (20, mkG sh117_1_l20 [8, 60, 61] (outT [(.exit 4, [8])]) (fun d K => l20 d.1.2.1.1 d.2.1.2.1 d.2.1.2.2.2.1 d.2.2.1.2.1 (fun (y3 : List Int) => K (.exit 4) [.tv (.lf (.full 2))] [some ⟨d.2.1.1, [.seq (.int .u32) 8 d.2.1.2.1, .full 1, .int .u64 d.2.1.2.2.2.1]⟩, some ⟨d.2.2.1.1, [.seq (.int .u8) 0 d.2.2.1.2.1]⟩, some ⟨false, [.seq (.int .u8) 0 y3]⟩]) F d.1.2.2.1 d.2.2.2.1.2.1))]) code117 Try.f117.results.toList (encT sh117_1.vs d.1) (encH sh117_1.h d.2) K = (fun (a1 : List Int) (a2 : Int) (a3 : List Int) (K0 : (ByteArray → Option Res)) => cond (decide ((0 : Int) ≤ ((min a3.length 64 : Nat) : Int) ∧ ((min a3.length 64 : Nat) : Int) < (64 : Int))) (cond (decide (0 + (((min a3.length 64 : Nat) : Int).toNat) < ((List.replicate 128 0).take 0 ++ (a3.take 64 ++ (List.replicate 128 0).drop (0 + (min a3.length 64)))).length)) (cond (decide (((min a3.length 64 : Nat) : Int) ≥ 56)) (l10 0 128 128 (IntKind.u64.wrap (8 * a2)) a1 a2 a3 (fun x10 => l15 a1 a2 a3 x10 (fun x20 => l20 x20 a1 a2 a3 (fun x27 => K0 (ofInts x27)) F 0 []) F 0 128 128 a1) F 0 (((List.replicate 128 0).take 0 ++ (a3.take 64 ++ (List.replicate 128 0).drop (0 + (min a3.length 64)))).set (0 + (((min a3.length 64 : Nat) : Int).toNat)) 128)) (l10 0 64 128 (IntKind.u64.wrap (8 * a2)) a1 a2 a3 (fun x28 => l15 a1 a2 a3 x28 (fun x29 => l20 x29 a1 a2 a3 (fun x30 => K0 (ofInts x30)) F 0 []) F 0 64 128 a1) F 0 (((List.replicate 128 0).take 0 ++ (a3.take 64 ++ (List.replicate 128 0).drop (0 + (min a3.length 64)))).set (0 + (((min a3.length 64 : Nat) : Int).toNat)) 128))) none) none) d.2.1.2.1 d.2.1.2.2.2.1 d.2.2.1.2.1 (fun (y0 : ByteArray) => K [.lf (.str y0)] [some ⟨d.2.1.1, [.seq (.int .u32) 8 d.2.1.2.1, .full 1, .int .u64 d.2.1.2.2.2.1]⟩, some ⟨d.2.2.1.1, [.seq (.int .u8) 0 d.2.2.1.2.1]⟩]) := by kernel_rfl
theorem E117_1 (F : Nat) (d : sh117_1.den) (K : KF) : evBody Try.prog (T117_1 F) 81 2 (LT117_1 F) code117 Try.f117.results.toList (encT sh117_1.vs d.1) (encH sh117_1.h d.2) K = f117_1 F d.2.1.2.1 d.2.1.2.2.2.1 d.2.2.1.2.1 (fun (y0 : ByteArray) => K [.lf (.str y0)] [some ⟨d.2.1.1, [.seq (.int .u32) 8 d.2.1.2.1, .full 1, .int .u64 d.2.1.2.2.2.1]⟩, some ⟨d.2.2.1.1, [.seq (.int .u8) 0 d.2.2.1.2.1]⟩]) := Eq.mp (by kernel_rfl) (E117_1g F (f130_1 F) (f117_1_l10 F) (f117_1_l15 F) (f117_1_l20 F)  d K)
theorem S117_1_ok (F : Nat) (o : Summ) (ho : SoundFn Try.prog 117 o) : SoundFn Try.prog 117 (S117_1 F o) :=
  soundFn_of (fn := Try.f117) (c := code117) (by kernel_rfl) (tab_cons (S130_1_ok F _ (noS_sound enter130)) tab_nil) (by kernel_rfl) (by kernel_rfl) ho (by rw [loops117]; exact (loopsOK_cons (by kernel_rfl) (L117_1_10 F) (loopsOK_cons (by kernel_rfl) (L117_1_15 F) (loopsOK_cons (by kernel_rfl) (L117_1_20 F) loopsOK_nil)))) (by rw [scopes117]; exact scopesOK_nil) (E117_1 F)
end Go.Proofs.Ytillbabmlfjegaa.X
end

section
namespace Go.Proofs.Ytillbabmlfjegaa.X
open Go Go.Proofs.Ytillbabmlfjegaa.Ev Go.Proofs
set_option linter.unusedVariables false
/-! digest.tagged -/
noncomputable def f97_1_l4 {β : Type} (F : Nat) (v6 : Int) (v8 : List ByteArray) (K0 : List Int → Int → List Int → Option β) : Nat → Int → List Int → Int → List Int → Option β
  | 0, _, _, _, _ => none
  | k + 1, v7, v9, v10, v11 => cond (decide (v7 < v6)) (cond (decide ((0 : Int) ≤ v7 ∧ v7 < ((v8.length : Nat) : Int))) (cond (decide (0 + v7.toNat < v8.length)) (f116_1 F v9 v10 v11 (toInts (v8.getD (0 + v7.toNat) ByteArray.empty)) (fun x12 x13 x14 => f97_1_l4 F v6 v8 K0 k (IntKind.i64.wrap (v7 + 1)) x12 x13 x14) ) none) none) (K0 v9 v10 v11)
noncomputable def f97_1 {β : Type} (F : Nat) (a1 : Int) (a2 : List ByteArray) (K0 : ByteArray → Option β) : Option β := f115_1 F  (fun x1 x2 => f116_1 F x1 0 x2 [a1] (fun x3 x4 x5 => f97_1_l4 F ((a2.length : Nat) : Int) a2 (fun x15 x16 x17 => f117_1 F x15 x16 x17 (fun x18 => K0 x18) ) F 0 x3 x4 x5) ) 
def sh97_1 : Sh := ⟨[.lf (.int .u8), .lf (.full 0)], [some ⟨none, [.seq .str 0]⟩]⟩
noncomputable def S97_1 (F : Nat) (o : Summ) : Summ := mkS sh97_1 (fun d K => f97_1 F d.1.1 d.2.1.2.1 (fun (y0 : ByteArray) => K [.lf (.str y0)] [some ⟨d.2.1.1, [.seq .str 0 d.2.1.2.1]⟩])) o
noncomputable def code97 : Code := bodyOf Try.f97
noncomputable def b97_0 : Code := cB (cB (cR (cL (cR (cR (cR (code97)))))))
theorem scopes97 : scopesOf code97 = [] := by kernel_rfl
theorem loops97 : loopsOf code97 = [b97_0] := by kernel_rfl
theorem enter97 : ∀ args w, (callFunc 97 args).run Try.prog w = .ok (.enter 97 args) w := enter_of (fn := Try.f97) (by kernel_rfl) (by kernel_rfl) (by kernel_rfl)
noncomputable def T97_1 (F : Nat) : FuncId → Option Summ := tab [(115, (S115_1 F noS)), (116, (S116_1 F noS)), (117, (S117_1 F noS))]
def sh97_1_l4 : Sh := ⟨[.lf (.ptr 1 0), .lf (.full 0), .lf (.int .i64), .lf (.int .i64)], [some ⟨none, [.seq .str 0]⟩, some ⟨some false, [.seq (.int .u32) 8, .full 2, .int .u64]⟩, some ⟨some false, [.seq (.int .u8) 0]⟩]⟩
noncomputable def G97_1_4 (F k : Nat) : LoopS := mkG sh97_1_l4 [5, 13, 14, 15] (outT [(.exit 0, [5])]) (fun d K => f97_1_l4 F d.1.2.2.1 d.2.1.2.1 (fun (y1 : List Int) (y2 : Int) (y3 : List Int) => K (.exit 0) [.tv (.lf (.ptr 1 0))] [some ⟨d.2.1.1, [.seq .str 0 d.2.1.2.1]⟩, some ⟨false, [.seq (.int .u32) 8 y1, .full 2, .int .u64 y2]⟩, some ⟨false, [.seq (.int .u8) 0 y3]⟩]) k d.1.2.2.2.1 d.2.2.1.2.1 d.2.2.1.2.2.2.1 d.2.2.2.1.2.1)
noncomputable def LT97_1 (F : Nat) : Nat → Option LoopS := ltab [(4, G97_1_4 F F)]
theorem L97_1_4g (F k : Nat) (c115_1 : (List Int → List Int → Option Res) → Option Res) (c116_1 : List Int → Int → List Int → List Int → (List Int → Int → List Int → Option Res) → Option Res) (c117_1 : List Int → Int → List Int → (ByteArray → Option Res) → Option Res)  (l4 : Int → List ByteArray → (List Int → Int → List Int → Option Res) → Nat → Int → List Int → Int → List Int → Option Res) (X4 : LoopS) (d : sh97_1_l4.den) (K : KL) : (fun (v6 : Int) (v8 : List ByteArray) (K0 : (List Int → Int → List Int → Option Res)) (k : Nat) (v7 : Int) (v9 : List Int) (v10 : Int) (v11 : List Int) => cond (decide (v7 < v6)) (cond (decide ((0 : Int) ≤ v7 ∧ v7 < ((v8.length : Nat) : Int))) (cond (decide (0 + v7.toNat < v8.length)) (c116_1 v9 v10 v11 (toInts (v8.getD (0 + v7.toNat) ByteArray.empty)) (fun x12 x13 x14 => l4 v6 v8 K0 k (IntKind.i64.wrap (v7 + 1)) x12 x13 x14) ) none) none) (K0 v9 v10 v11)) d.1.2.2.1 d.2.1.2.1 (fun (y1 : List Int) (y2 : Int) (y3 : List Int) => K (.exit 0) [.tv (.lf (.ptr 1 0))] [some ⟨d.2.1.1, [.seq .str 0 d.2.1.2.1]⟩, some ⟨false, [.seq (.int .u32) 8 y1, .full 2, .int .u64 y2]⟩, some ⟨false, [.seq (.int .u8) 0 y3]⟩]) k d.1.2.2.2.1 d.2.2.1.2.1 d.2.2.1.2.2.2.1 d.2.2.2.1.2.1 = roundOf Try.prog (tab [(115, (mkS sh115_1 (fun d K => c115_1 (fun (y0 : List Int) (y2 : List Int) => K [.lf (.ptr 0 0)] [some ⟨false, [.seq (.int .u32) 8 y0, .full 1, .int .u64 0]⟩, some ⟨false, [.seq (.int .u8) 0 y2]⟩])) noS)), (116, (mkS sh116_1 (fun d K => c116_1 d.2.1.2.1 d.2.1.2.2.2.1 d.2.2.1.2.1 d.2.2.2.1.2.1 (fun (y0 : List Int) (y1 : Int) (y3 : List Int) => K [] [some ⟨false, [.seq (.int .u32) 8 y0, .full 3, .int .u64 y1]⟩, none, some ⟨d.2.2.2.1.1, [.seq (.int .u8) 0 d.2.2.2.1.2.1]⟩, some ⟨false, [.seq (.int .u8) 0 y3]⟩])) noS)), (117, (mkS sh117_1 (fun d K => c117_1 d.2.1.2.1 d.2.1.2.2.2.1 d.2.2.1.2.1 (fun (y0 : ByteArray) => K [.lf (.str y0)] [some ⟨d.2.1.1, [.seq (.int .u32) 8 d.2.1.2.1, .full 1, .int .u64 d.2.1.2.2.2.1]⟩, some ⟨d.2.2.1.1, [.seq (.int .u8) 0 d.2.2.1.2.1]⟩])) noS))]) 26 1 (ltab [(4, X4)]) (mkG sh97_1_l4 [5, 13, 14, 15] (outT [(.exit 0, [5])]) (fun d K => l4 d.1.2.2.1 d.2.1.2.1 (fun (y1 : List Int) (y2 : Int) (y3 : List Int) => K (.exit 0) [.tv (.lf (.ptr 1 0))] [some ⟨d.2.1.1, [.seq .str 0 d.2.1.2.1]⟩, some ⟨false, [.seq (.int .u32) 8 y1, .full 2, .int .u64 y2]⟩, some ⟨false, [.seq (.int .u8) 0 y3]⟩]) k d.1.2.2.2.1 d.2.2.1.2.1 d.2.2.1.2.2.2.1 d.2.2.2.1.2.1)) b97_0 (encT sh97_1_l4.vs d.1) (encH sh97_1_l4.h d.2) K := by kernel_rfl
theorem L97_1_4 (F : Nat) : LoopOK Try.prog (T97_1 F) 26 1 (LT97_1 F) (G97_1_4 F F) b97_0 :=
  loopOK_of (s := sh97_1_l4) (live := [5, 13, 14, 15]) (out := (outT [(.exit 0, [5])])) (fun k d K => f97_1_l4 F d.1.2.2.1 d.2.1.2.1 (fun (y1 : List Int) (y2 : Int) (y3 : List Int) => K (.exit 0) [.tv (.lf (.ptr 1 0))] [some ⟨d.2.1.1, [.seq .str 0 d.2.1.2.1]⟩, some ⟨false, [.seq (.int .u32) 8 y1, .full 2, .int .u64 y2]⟩, some ⟨false, [.seq (.int .u8) 0 y3]⟩]) k d.1.2.2.2.1 d.2.2.1.2.1 d.2.2.1.2.2.2.1 d.2.2.2.1.2.1) F (fun d K => by kernel_rfl)  (fun k d K => Eq.mp (by kernel_rfl) (L97_1_4g F k (f115_1 F) (f116_1 F) (f117_1 F)  (f97_1_l4 F) (G97_1_4 F F) d K))
theorem E97_1g (F : Nat) (c115_1 : (List Int → List Int → Option Res) → Option Res) (c116_1 : List Int → Int → List Int → List Int → (List Int → Int → List Int → Option Res) → Option Res) (c117_1 : List Int → Int → List Int → (ByteArray → Option Res) → Option Res) (l4 : Int → List ByteArray → (List Int → Int → List Int → Option Res) → Nat → Int → List Int → Int → List Int → Option Res)  (d : sh97_1.den) (K : KF) : evBody Try.prog (tab [(115, (mkS sh115_1 (fun d K => c115_1 (fun (y0 : List Int) (y2 : List Int) => K [.lf (.ptr 0 0)] [some ⟨false, [.seq (.int .u32) 8 y0, .full 1, .int .u64 0]⟩, some ⟨false, [.seq (.int .u8) 0 y2]⟩])) noS)), (116, (mkS sh116_1 (fun d K => c116_1 d.2.1.2.1 d.2.1.2.2.2.1 d.2.2.1.2.1 d.2.2.2.1.2.1 (fun (y0 : List Int) (y1 : Int) (y3 : List Int) => K [] [some ⟨false, [.seq (.int .u32) 8 y0, .full 3, .int .u64 y1]⟩, none, some ⟨d.2.2.2.1.1, [.seq (.int .u8) 0 d.2.2.2.1.2.1]⟩, some ⟨false, [.seq (.int .u8) 0 y3]⟩])) noS)), (117, (mkS sh117_1 (fun d K => c117_1 d.2.1.2.1 d.2.1.2.2.2.1 d.2.2.1.2.1 (fun (y0 : ByteArray) => K [.lf (.str y0)] [some ⟨d.2.1.1, [.seq (.int .u32) 8 d.2.1.2.1, .full 1, .int .u64 d.2.1.2.2.2.1]⟩, some ⟨d.2.2.1.1, [.seq (.int .u8) 0 d.2.2.1.2.1]⟩])) noS))]) 26 1 (ltab [(4, mkG sh97_1_l4 [5, 13, 14, 15] (outT [(.exit 0, [5])]) (fun d K => l4 d.1.2.2.1 d.2.1.2.1 (fun (y1 : List Int) (y2 : Int) (y3 : List Int) => K (.exit 0) [.tv (.lf (.ptr 1 0))] [some ⟨d.2.1.1, [.seq .str 0 d.2.1.2.1]⟩, some ⟨false, [.seq (.int .u32) 8 y1, .full 2, .int .u64 y2]⟩, some ⟨false, [.seq (.int .u8) 0 y3]⟩]) F d.1.2.2.2.1 d.2.2.1.2.1 d.2.2.1.2.2.2.1 d.2.2.2.1.2.1))]) code97 Try.f97.results.toList (encT sh97_1.vs d.1) (encH sh97_1.h d.2) K = (fun (a1 : Int) (a2 : List ByteArray) (K0 : (ByteArray → Option Res)) => c115_1  (fun x1 x2 => c116_1 x1 0 x2 [a1] (fun x3 x4 x5 => l4 ((a2.length : Nat) : Int) a2 (fun x15 x16 x17 => c117_1 x15 x16 x17 (fun x18 => K0 x18) ) F 0 x3 x4 x5) ) ) d.1.1 d.2.1.2.1 (fun (y0 : ByteArray) => K [.lf (.str y0)] [some ⟨d.2.1.1, [.seq .str 0 d.2.1.2.1]⟩]) := by kernel_rfl
theorem E97_1 (F : Nat) (d : sh97_1.den) (K : KF) : evBody Try.prog (T97_1 F) 26 1 (LT97_1 F) code97 Try.f97.results.toList (encT sh97_1.vs d.1) (encH sh97_1.h d.2) K = f97_1 F d.1.1 d.2.1.2.1 (fun (y0 : ByteArray) => K [.lf (.str y0)] [some ⟨d.2.1.1, [.seq .str 0 d.2.1.2.1]⟩]) := Eq.mp (by kernel_rfl) (E97_1g F (f115_1 F) (f116_1 F) (f117_1 F) (f97_1_l4 F)  d K)
theorem S97_1_ok (F : Nat) (o : Summ) (ho : SoundFn Try.prog 97 o) : SoundFn Try.prog 97 (S97_1 F o) :=
  soundFn_of (fn := Try.f97) (c := code97) (by kernel_rfl) (tab_cons (S115_1_ok F _ (noS_sound enter115)) (tab_cons (S116_1_ok F _ (noS_sound enter116)) (tab_cons (S117_1_ok F _ (noS_sound enter117)) tab_nil))) (by kernel_rfl) (by kernel_rfl) ho (by rw [loops97]; exact (loopsOK_cons (by kernel_rfl) (L97_1_4 F) loopsOK_nil)) (by rw [scopes97]; exact scopesOK_nil) (E97_1 F)
end Go.Proofs.Ytillbabmlfjegaa.X
end

section
namespace Go.Proofs.Ytillbabmlfjegaa.X
open Go Go.Proofs.Ytillbabmlfjegaa.Ev Go.Proofs
set_option linter.unusedVariables false
/-! digest.Leaf -/
noncomputable def f56_1 {β : Type} (F : Nat) (a1 : ByteArray) (K0 : ByteArray → Option β) : Option β := f97_1 F 0 [a1] (fun x1 => K0 x1) 
def sh56_1 : Sh := ⟨[.lf (.str)], []⟩
noncomputable def S56_1 (F : Nat) (o : Summ) : Summ := mkS sh56_1 (fun d K => f56_1 F d.1.1 (fun (y0 : ByteArray) => K [.lf (.str y0)] [])) o
noncomputable def code56 : Code := bodyOf Try.f56
theorem scopes56 : scopesOf code56 = [] := by kernel_rfl
theorem loops56 : loopsOf code56 = [] := by kernel_rfl
theorem enter56 : ∀ args w, (callFunc 56 args).run Try.prog w = .ok (.enter 56 args) w := enter_of (fn := Try.f56) (by kernel_rfl) (by kernel_rfl) (by kernel_rfl)
noncomputable def T56_1 (F : Nat) : FuncId → Option Summ := tab [(97, (S97_1 F noS))]
noncomputable def LT56_1 (F : Nat) : Nat → Option LoopS := ltab []
theorem E56_1g (F : Nat) (c97_1 : Int → List ByteArray → (ByteArray → Option Res) → Option Res)   (d : sh56_1.den) (K : KF) : evBody Try.prog (tab [(97, (mkS sh97_1 (fun d K => c97_1 d.1.1 d.2.1.2.1 (fun (y0 : ByteArray) => K [.lf (.str y0)] [some ⟨d.2.1.1, [.seq .str 0 d.2.1.2.1]⟩])) noS))]) 6 0 (ltab []) code56 Try.f56.results.toList (encT sh56_1.vs d.1) (encH sh56_1.h d.2) K = (fun (a1 : ByteArray) (K0 : (ByteArray → Option Res)) => c97_1 0 [a1] (fun x1 => K0 x1) ) d.1.1 (fun (y0 : ByteArray) => K [.lf (.str y0)] []) := by kernel_rfl
theorem E56_1 (F : Nat) (d : sh56_1.den) (K : KF) : evBody Try.prog (T56_1 F) 6 0 (LT56_1 F) code56 Try.f56.results.toList (encT sh56_1.vs d.1) (encH sh56_1.h d.2) K = f56_1 F d.1.1 (fun (y0 : ByteArray) => K [.lf (.str y0)] []) := Eq.mp (by kernel_rfl) (E56_1g F (f97_1 F)   d K)
theorem S56_1_ok (F : Nat) (o : Summ) (ho : SoundFn Try.prog 56 o) : SoundFn Try.prog 56 (S56_1 F o) :=
  soundFn_of (fn := Try.f56) (c := code56) (by kernel_rfl) (tab_cons (S97_1_ok F _ (noS_sound enter97)) tab_nil) (by kernel_rfl) (by kernel_rfl) ho (by rw [loops56]; exact loopsOK_nil) (by rw [scopes56]; exact scopesOK_nil) (E56_1 F)
end Go.Proofs.Ytillbabmlfjegaa.X
end

section
namespace Go.Proofs.Ytillbabmlfjegaa.X
open Go Go.Proofs.Ytillbabmlfjegaa.Ev Go.Proofs
set_option linter.unusedVariables false
/-! walk.queue).cut -/
noncomputable def f70_2686 {β : Type} (F : Nat) (a1 : Int) (a2 : Int) (a3 : Int) (a4 : Int) (a5 : Int) (a6 : Int) (a7 : Int) (a8 : Int) (a9 : Int) (a10 : Int) (a11 : Int) (a12 : List ByteArray) (a13 : List (Int × ByteArray)) (a14 : List (Int × ByteArray)) (K0 : Nat → Nat → Option β) : Option β := cond (decide ((0 : Int) ≤ (1 : Int) ∧ (1 : Int) ≤ ((a14.length : Nat) : Int) ∧ ((a14.length : Nat) : Int) ≤ ((a14.length : Nat) : Int) ∧ ((a14.length : Nat) : Int) ≤ ((a14.length : Nat) : Int))) (K0 ((((a14.length : Nat) : Int) - 1).toNat) ((((a14.length : Nat) : Int) - 1).toNat)) none
def sh70_2686 : Sh := ⟨[.lf (.ptr 0 6)], [some ⟨some false, [.int .i64, .int .i64, .int .i64, .int .i64, .ptr 1 0, .full 3, .full 4, .int .i64, .int .i64, .int .i64]⟩, some ⟨none, [.int .i64, .int .i64, .int .i64, .int .i64, .full 2]⟩, some ⟨none, [.seq .str 0]⟩, some ⟨none, [.seq (.pair (.int .i64) .str) 0]⟩, some ⟨none, [.seq (.pair (.int .i64) .str) 0]⟩]⟩
noncomputable def S70_2686 (F : Nat) (o : Summ) : Summ := mkS sh70_2686 (fun d K => f70_2686 F d.2.1.2.1 d.2.1.2.2.1 d.2.1.2.2.2.1 d.2.1.2.2.2.2.1 d.2.1.2.2.2.2.2.2.2.2.1 d.2.1.2.2.2.2.2.2.2.2.2.1 d.2.1.2.2.2.2.2.2.2.2.2.2.1 d.2.2.1.2.1 d.2.2.1.2.2.1 d.2.2.1.2.2.2.1 d.2.2.1.2.2.2.2.1 d.2.2.2.1.2.1 d.2.2.2.2.1.2.1 d.2.2.2.2.2.1.2.1 (fun (y5 : Nat) (y6 : Nat) => K [] [some ⟨false, [.int .i64 d.2.1.2.1, .int .i64 d.2.1.2.2.1, .int .i64 d.2.1.2.2.2.1, .int .i64 d.2.1.2.2.2.2.1, .ptr 1 0, .full 3, .slice 4 0 1 y5 (some y6), .int .i64 d.2.1.2.2.2.2.2.2.2.2.1, .int .i64 d.2.1.2.2.2.2.2.2.2.2.2.1, .int .i64 d.2.1.2.2.2.2.2.2.2.2.2.2.1]⟩, some ⟨d.2.2.1.1, [.int .i64 d.2.2.1.2.1, .int .i64 d.2.2.1.2.2.1, .int .i64 d.2.2.1.2.2.2.1, .int .i64 d.2.2.1.2.2.2.2.1, .full 2]⟩, some ⟨d.2.2.2.1.1, [.seq .str 0 d.2.2.2.1.2.1]⟩, some ⟨d.2.2.2.2.1.1, [.seq (.pair (.int .i64) .str) 0 d.2.2.2.2.1.2.1]⟩, some ⟨d.2.2.2.2.2.1.1, [.seq (.pair (.int .i64) .str) 0 d.2.2.2.2.2.1.2.1]⟩])) o
noncomputable def code70 : Code := bodyOf Try.f70
theorem scopes70 : scopesOf code70 = [] := by kernel_rfl
theorem loops70 : loopsOf code70 = [] := by kernel_rfl
theorem enter70 : ∀ args w, (callFunc 70 args).run Try.prog w = .ok (.enter 70 args) w := enter_of (fn := Try.f70) (by kernel_rfl) (by kernel_rfl) (by kernel_rfl)
noncomputable def T70_2686 (F : Nat) : FuncId → Option Summ := tab []
noncomputable def LT70_2686 (F : Nat) : Nat → Option LoopS := ltab []
theorem E70_2686g (F : Nat)    (d : sh70_2686.den) (K : KF) : evBody Try.prog (tab []) 18 5 (ltab []) code70 Try.f70.results.toList (encT sh70_2686.vs d.1) (encH sh70_2686.h d.2) K = (fun (a1 : Int) (a2 : Int) (a3 : Int) (a4 : Int) (a5 : Int) (a6 : Int) (a7 : Int) (a8 : Int) (a9 : Int) (a10 : Int) (a11 : Int) (a12 : List ByteArray) (a13 : List (Int × ByteArray)) (a14 : List (Int × ByteArray)) (K0 : (Nat → Nat → Option Res)) => cond (decide ((0 : Int) ≤ (1 : Int) ∧ (1 : Int) ≤ ((a14.length : Nat) : Int) ∧ ((a14.length : Nat) : Int) ≤ ((a14.length : Nat) : Int) ∧ ((a14.length : Nat) : Int) ≤ ((a14.length : Nat) : Int))) (K0 ((((a14.length : Nat) : Int) - 1).toNat) ((((a14.length : Nat) : Int) - 1).toNat)) none) d.2.1.2.1 d.2.1.2.2.1 d.2.1.2.2.2.1 d.2.1.2.2.2.2.1 d.2.1.2.2.2.2.2.2.2.2.1 d.2.1.2.2.2.2.2.2.2.2.2.1 d.2.1.2.2.2.2.2.2.2.2.2.2.1 d.2.2.1.2.1 d.2.2.1.2.2.1 d.2.2.1.2.2.2.1 d.2.2.1.2.2.2.2.1 d.2.2.2.1.2.1 d.2.2.2.2.1.2.1 d.2.2.2.2.2.1.2.1 (fun (y5 : Nat) (y6 : Nat) => K [] [some ⟨false, [.int .i64 d.2.1.2.1, .int .i64 d.2.1.2.2.1, .int .i64 d.2.1.2.2.2.1, .int .i64 d.2.1.2.2.2.2.1, .ptr 1 0, .full 3, .slice 4 0 1 y5 (some y6), .int .i64 d.2.1.2.2.2.2.2.2.2.2.1, .int .i64 d.2.1.2.2.2.2.2.2.2.2.2.1, .int .i64 d.2.1.2.2.2.2.2.2.2.2.2.2.1]⟩, some ⟨d.2.2.1.1, [.int .i64 d.2.2.1.2.1, .int .i64 d.2.2.1.2.2.1, .int .i64 d.2.2.1.2.2.2.1, .int .i64 d.2.2.1.2.2.2.2.1, .full 2]⟩, some ⟨d.2.2.2.1.1, [.seq .str 0 d.2.2.2.1.2.1]⟩, some ⟨d.2.2.2.2.1.1, [.seq (.pair (.int .i64) .str) 0 d.2.2.2.2.1.2.1]⟩, some ⟨d.2.2.2.2.2.1.1, [.seq (.pair (.int .i64) .str) 0 d.2.2.2.2.2.1.2.1]⟩]) := by kernel_rfl
theorem E70_2686 (F : Nat) (d : sh70_2686.den) (K : KF) : evBody Try.prog (T70_2686 F) 18 5 (LT70_2686 F) code70 Try.f70.results.toList (encT sh70_2686.vs d.1) (encH sh70_2686.h d.2) K = f70_2686 F d.2.1.2.1 d.2.1.2.2.1 d.2.1.2.2.2.1 d.2.1.2.2.2.2.1 d.2.1.2.2.2.2.2.2.2.2.1 d.2.1.2.2.2.2.2.2.2.2.2.1 d.2.1.2.2.2.2.2.2.2.2.2.2.1 d.2.2.1.2.1 d.2.2.1.2.2.1 d.2.2.1.2.2.2.1 d.2.2.1.2.2.2.2.1 d.2.2.2.1.2.1 d.2.2.2.2.1.2.1 d.2.2.2.2.2.1.2.1 (fun (y5 : Nat) (y6 : Nat) => K [] [some ⟨false, [.int .i64 d.2.1.2.1, .int .i64 d.2.1.2.2.1, .int .i64 d.2.1.2.2.2.1, .int .i64 d.2.1.2.2.2.2.1, .ptr 1 0, .full 3, .slice 4 0 1 y5 (some y6), .int .i64 d.2.1.2.2.2.2.2.2.2.2.1, .int .i64 d.2.1.2.2.2.2.2.2.2.2.2.1, .int .i64 d.2.1.2.2.2.2.2.2.2.2.2.2.1]⟩, some ⟨d.2.2.1.1, [.int .i64 d.2.2.1.2.1, .int .i64 d.2.2.1.2.2.1, .int .i64 d.2.2.1.2.2.2.1, .int .i64 d.2.2.1.2.2.2.2.1, .full 2]⟩, some ⟨d.2.2.2.1.1, [.seq .str 0 d.2.2.2.1.2.1]⟩, some ⟨d.2.2.2.2.1.1, [.seq (.pair (.int .i64) .str) 0 d.2.2.2.2.1.2.1]⟩, some ⟨d.2.2.2.2.2.1.1, [.seq (.pair (.int .i64) .str) 0 d.2.2.2.2.2.1.2.1]⟩]) := Eq.mp (by kernel_rfl) (E70_2686g F    d K)
theorem S70_2686_ok (F : Nat) (o : Summ) (ho : SoundFn Try.prog 70 o) : SoundFn Try.prog 70 (S70_2686 F o) :=
  soundFn_of (fn := Try.f70) (c := code70) (by kernel_rfl) tab_nil (by kernel_rfl) (by kernel_rfl) ho (by rw [loops70]; exact loopsOK_nil) (by rw [scopes70]; exact scopesOK_nil) (E70_2686 F)
end Go.Proofs.Ytillbabmlfjegaa.X
end

section
namespace Go.Proofs.Ytillbabmlfjegaa.X
open Go Go.Proofs.Ytillbabmlfjegaa.Ev Go.Proofs
set_option linter.unusedVariables false
/-! walk.Walk).Data -/
noncomputable def f20_1 {β : Type} (F : Nat) (a1 : Int) (a2 : ByteArray) (a3 : Int) (a4 : Int) (a5 : Int) (a6 : Int) (a7 : Int) (a8 : Int) (a9 : Int) (a10 : Int) (a11 : Int) (a12 : Int) (a13 : Int) (a14 : List ByteArray) (a15 : List (Int × ByteArray)) (a16 : List (Int × ByteArray)) (K0 : Int → Option β) (K1 : Nat → Nat → Int → Option β) : Option β := f67_1 F 2 a1 a3 a4 a5 a6 a7 a8 a9 a10 a11 a12 a13 a14 a15 a16 (fun x1 => cond (!x1) (K0 17) (f55_1 F a2 (fun x2 => cond (!x2) (K0 4) (cond (decide ((0 : Int) ≤ (0 : Int) ∧ (0 : Int) < ((a16.length : Nat) : Int))) (cond (decide (0 < a16.length)) (f56_1 F a2 (fun x3 => cond (!(x3.toList == ((a16.getD 0 (0, ByteArray.empty)).2).toList)) (K0 18) (f70_2686 F a3 a4 a5 a6 a7 a8 a9 a10 a11 a12 a13 a14 a15 a16 (fun x4 x5 => K1 x4 x5 (IntKind.i64.wrap (a9 + 1))) )) ) none) none)) )) 
def sh20_1 : Sh := ⟨[.lf (.ptr 0 0), .lf (.int .i64), .lf (.str)], [some ⟨some false, [.int .i64, .int .i64, .int .i64, .int .i64, .ptr 1 0, .full 3, .full 4, .int .i64, .int .i64, .int .i64]⟩, some ⟨none, [.int .i64, .int .i64, .int .i64, .int .i64, .full 2]⟩, some ⟨none, [.seq .str 0]⟩, some ⟨none, [.seq (.pair (.int .i64) .str) 0]⟩, some ⟨none, [.seq (.pair (.int .i64) .str) 0]⟩]⟩
noncomputable def S20_1 (F : Nat) (o : Summ) : Summ := mkS sh20_1 (fun d K => f20_1 F d.1.2.1 d.1.2.2.1 d.2.1.2.1 d.2.1.2.2.1 d.2.1.2.2.2.1 d.2.1.2.2.2.2.1 d.2.1.2.2.2.2.2.2.2.2.1 d.2.1.2.2.2.2.2.2.2.2.2.1 d.2.1.2.2.2.2.2.2.2.2.2.2.1 d.2.2.1.2.1 d.2.2.1.2.2.1 d.2.2.1.2.2.2.1 d.2.2.1.2.2.2.2.1 d.2.2.2.1.2.1 d.2.2.2.2.1.2.1 d.2.2.2.2.2.1.2.1 (fun (y0 : Int) => K [.lf (.int .i64 y0)] [some ⟨false, [.int .i64 d.2.1.2.1, .int .i64 d.2.1.2.2.1, .int .i64 d.2.1.2.2.2.1, .int .i64 d.2.1.2.2.2.2.1, .ptr 1 0, .full 3, .full 4, .int .i64 d.2.1.2.2.2.2.2.2.2.2.1, .int .i64 d.2.1.2.2.2.2.2.2.2.2.2.1, .int .i64 d.2.1.2.2.2.2.2.2.2.2.2.2.1]⟩, some ⟨d.2.2.1.1, [.int .i64 d.2.2.1.2.1, .int .i64 d.2.2.1.2.2.1, .int .i64 d.2.2.1.2.2.2.1, .int .i64 d.2.2.1.2.2.2.2.1, .full 2]⟩, some ⟨d.2.2.2.1.1, [.seq .str 0 d.2.2.2.1.2.1]⟩, some ⟨d.2.2.2.2.1.1, [.seq (.pair (.int .i64) .str) 0 d.2.2.2.2.1.2.1]⟩, some ⟨d.2.2.2.2.2.1.1, [.seq (.pair (.int .i64) .str) 0 d.2.2.2.2.2.1.2.1]⟩]) (fun (y6 : Nat) (y7 : Nat) (y10 : Int) => K [.lf (.int .i64 0)] [some ⟨false, [.int .i64 d.2.1.2.1, .int .i64 d.2.1.2.2.1, .int .i64 d.2.1.2.2.2.1, .int .i64 d.2.1.2.2.2.2.1, .ptr 1 0, .full 3, .slice 4 0 1 y6 (some y7), .int .i64 d.2.1.2.2.2.2.2.2.2.2.1, .int .i64 d.2.1.2.2.2.2.2.2.2.2.2.1, .int .i64 y10]⟩, some ⟨d.2.2.1.1, [.int .i64 d.2.2.1.2.1, .int .i64 d.2.2.1.2.2.1, .int .i64 d.2.2.1.2.2.2.1, .int .i64 d.2.2.1.2.2.2.2.1, .full 2]⟩, some ⟨d.2.2.2.1.1, [.seq .str 0 d.2.2.2.1.2.1]⟩, some ⟨d.2.2.2.2.1.1, [.seq (.pair (.int .i64) .str) 0 d.2.2.2.2.1.2.1]⟩, some ⟨d.2.2.2.2.2.1.1, [.seq (.pair (.int .i64) .str) 0 d.2.2.2.2.2.1.2.1]⟩])) o
noncomputable def code20 : Code := bodyOf Try.f20
theorem scopes20 : scopesOf code20 = [] := by kernel_rfl
theorem loops20 : loopsOf code20 = [] := by kernel_rfl
theorem enter20 : ∀ args w, (callFunc 20 args).run Try.prog w = .ok (.enter 20 args) w := enter_of (fn := Try.f20) (by kernel_rfl) (by kernel_rfl) (by kernel_rfl)
noncomputable def T20_1 (F : Nat) : FuncId → Option Summ := tab [(55, (S55_1 F noS)), (56, (S56_1 F noS)), (67, (S67_1 F noS)), (70, (S70_2686 F noS))]
noncomputable def LT20_1 (F : Nat) : Nat → Option LoopS := ltab []
theorem E20_1g (F : Nat) (c55_1 : ByteArray → (Bool → Option Res) → Option Res) (c56_1 : ByteArray → (ByteArray → Option Res) → Option Res) (c67_1 : Int → Int → Int → Int → Int → Int → Int → Int → Int → Int → Int → Int → Int → List ByteArray → List (Int × ByteArray) → List (Int × ByteArray) → (Bool → Option Res) → Option Res) (c70_2686 : Int → Int → Int → Int → Int → Int → Int → Int → Int → Int → Int → List ByteArray → List (Int × ByteArray) → List (Int × ByteArray) → (Nat → Nat → Option Res) → Option Res)   (d : sh20_1.den) (K : KF) : evBody Try.prog (tab [(55, (mkS sh55_1 (fun d K => c55_1 d.1.1 (fun (y0 : Bool) => K [.lf (.bool y0)] [])) noS)), (56, (mkS sh56_1 (fun d K => c56_1 d.1.1 (fun (y0 : ByteArray) => K [.lf (.str y0)] [])) noS)), (67, (mkS sh67_1 (fun d K => c67_1 d.1.2.1 d.1.2.2.1 d.2.1.2.1 d.2.1.2.2.1 d.2.1.2.2.2.1 d.2.1.2.2.2.2.1 d.2.1.2.2.2.2.2.2.2.2.1 d.2.1.2.2.2.2.2.2.2.2.2.1 d.2.1.2.2.2.2.2.2.2.2.2.2.1 d.2.2.1.2.1 d.2.2.1.2.2.1 d.2.2.1.2.2.2.1 d.2.2.1.2.2.2.2.1 d.2.2.2.1.2.1 d.2.2.2.2.1.2.1 d.2.2.2.2.2.1.2.1 (fun (y0 : Bool) => K [.lf (.bool y0)] [some ⟨d.2.1.1, [.int .i64 d.2.1.2.1, .int .i64 d.2.1.2.2.1, .int .i64 d.2.1.2.2.2.1, .int .i64 d.2.1.2.2.2.2.1, .ptr 1 0, .full 3, .full 4, .int .i64 d.2.1.2.2.2.2.2.2.2.2.1, .int .i64 d.2.1.2.2.2.2.2.2.2.2.2.1, .int .i64 d.2.1.2.2.2.2.2.2.2.2.2.2.1]⟩, some ⟨d.2.2.1.1, [.int .i64 d.2.2.1.2.1, .int .i64 d.2.2.1.2.2.1, .int .i64 d.2.2.1.2.2.2.1, .int .i64 d.2.2.1.2.2.2.2.1, .full 2]⟩, some ⟨d.2.2.2.1.1, [.seq .str 0 d.2.2.2.1.2.1]⟩, some ⟨d.2.2.2.2.1.1, [.seq (.pair (.int .i64) .str) 0 d.2.2.2.2.1.2.1]⟩, some ⟨d.2.2.2.2.2.1.1, [.seq (.pair (.int .i64) .str) 0 d.2.2.2.2.2.1.2.1]⟩])) noS)), (70, (mkS sh70_2686 (fun d K => c70_2686 d.2.1.2.1 d.2.1.2.2.1 d.2.1.2.2.2.1 d.2.1.2.2.2.2.1 d.2.1.2.2.2.2.2.2.2.2.1 d.2.1.2.2.2.2.2.2.2.2.2.1 d.2.1.2.2.2.2.2.2.2.2.2.2.1 d.2.2.1.2.1 d.2.2.1.2.2.1 d.2.2.1.2.2.2.1 d.2.2.1.2.2.2.2.1 d.2.2.2.1.2.1 d.2.2.2.2.1.2.1 d.2.2.2.2.2.1.2.1 (fun (y5 : Nat) (y6 : Nat) => K [] [some ⟨false, [.int .i64 d.2.1.2.1, .int .i64 d.2.1.2.2.1, .int .i64 d.2.1.2.2.2.1, .int .i64 d.2.1.2.2.2.2.1, .ptr 1 0, .full 3, .slice 4 0 1 y5 (some y6), .int .i64 d.2.1.2.2.2.2.2.2.2.2.1, .int .i64 d.2.1.2.2.2.2.2.2.2.2.2.1, .int .i64 d.2.1.2.2.2.2.2.2.2.2.2.2.1]⟩, some ⟨d.2.2.1.1, [.int .i64 d.2.2.1.2.1, .int .i64 d.2.2.1.2.2.1, .int .i64 d.2.2.1.2.2.2.1, .int .i64 d.2.2.1.2.2.2.2.1, .full 2]⟩, some ⟨d.2.2.2.1.1, [.seq .str 0 d.2.2.2.1.2.1]⟩, some ⟨d.2.2.2.2.1.1, [.seq (.pair (.int .i64) .str) 0 d.2.2.2.2.1.2.1]⟩, some ⟨d.2.2.2.2.2.1.1, [.seq (.pair (.int .i64) .str) 0 d.2.2.2.2.2.1.2.1]⟩])) noS))]) 42 5 (ltab []) code20 Try.f20.results.toList (encT sh20_1.vs d.1) (encH sh20_1.h d.2) K = (fun (a1 : Int) (a2 : ByteArray) (a3 : Int) (a4 : Int) (a5 : Int) (a6 : Int) (a7 : Int) (a8 : Int) (a9 : Int) (a10 : Int) (a11 : Int) (a12 : Int) (a13 : Int) (a14 : List ByteArray) (a15 : List (Int × ByteArray)) (a16 : List (Int × ByteArray)) (K0 : (Int → Option Res)) (K1 : (Nat → Nat → Int → Option Res)) => c67_1 2 a1 a3 a4 a5 a6 a7 a8 a9 a10 a11 a12 a13 a14 a15 a16 (fun x1 => cond (!x1) (K0 17) (c55_1 a2 (fun x2 => cond (!x2) (K0 4) (cond (decide ((0 : Int) ≤ (0 : Int) ∧ (0 : Int) < ((a16.length : Nat) : Int))) (cond (decide (0 < a16.length)) (c56_1 a2 (fun x3 => cond (!(x3.toList == ((a16.getD 0 (0, ByteArray.empty)).2).toList)) (K0 18) (c70_2686 a3 a4 a5 a6 a7 a8 a9 a10 a11 a12 a13 a14 a15 a16 (fun x4 x5 => K1 x4 x5 (IntKind.i64.wrap (a9 + 1))) )) ) none) none)) )) ) d.1.2.1 d.1.2.2.1 d.2.1.2.1 d.2.1.2.2.1 d.2.1.2.2.2.1 d.2.1.2.2.2.2.1 d.2.1.2.2.2.2.2.2.2.2.1 d.2.1.2.2.2.2.2.2.2.2.2.1 d.2.1.2.2.2.2.2.2.2.2.2.2.1 d.2.2.1.2.1 d.2.2.1.2.2.1 d.2.2.1.2.2.2.1 d.2.2.1.2.2.2.2.1 d.2.2.2.1.2.1 d.2.2.2.2.1.2.1 d.2.2.2.2.2.1.2.1 (fun (y0 : Int) => K [.lf (.int .i64 y0)] [some ⟨false, [.int .i64 d.2.1.2.1, .int .i64 d.2.1.2.2.1, .int .i64 d.2.1.2.2.2.1, .int .i64 d.2.1.2.2.2.2.1, .ptr 1 0, .full 3, .full 4, .int .i64 d.2.1.2.2.2.2.2.2.2.2.1, .int .i64 d.2.1.2.2.2.2.2.2.2.2.2.1, .int .i64 d.2.1.2.2.2.2.2.2.2.2.2.2.1]⟩, some ⟨d.2.2.1.1, [.int .i64 d.2.2.1.2.1, .int .i64 d.2.2.1.2.2.1, .int .i64 d.2.2.1.2.2.2.1, .int .i64 d.2.2.1.2.2.2.2.1, .full 2]⟩, some ⟨d.2.2.2.1.1, [.seq .str 0 d.2.2.2.1.2.1]⟩, some ⟨d.2.2.2.2.1.1, [.seq (.pair (.int .i64) .str) 0 d.2.2.2.2.1.2.1]⟩, some ⟨d.2.2.2.2.2.1.1, [.seq (.pair (.int .i64) .str) 0 d.2.2.2.2.2.1.2.1]⟩]) (fun (y6 : Nat) (y7 : Nat) (y10 : Int) => K [.lf (.int .i64 0)] [some ⟨false, [.int .i64 d.2.1.2.1, .int .i64 d.2.1.2.2.1, .int .i64 d.2.1.2.2.2.1, .int .i64 d.2.1.2.2.2.2.1, .ptr 1 0, .full 3, .slice 4 0 1 y6 (some y7), .int .i64 d.2.1.2.2.2.2.2.2.2.2.1, .int .i64 d.2.1.2.2.2.2.2.2.2.2.2.1, .int .i64 y10]⟩, some ⟨d.2.2.1.1, [.int .i64 d.2.2.1.2.1, .int .i64 d.2.2.1.2.2.1, .int .i64 d.2.2.1.2.2.2.1, .int .i64 d.2.2.1.2.2.2.2.1, .full 2]⟩, some ⟨d.2.2.2.1.1, [.seq .str 0 d.2.2.2.1.2.1]⟩, some ⟨d.2.2.2.2.1.1, [.seq (.pair (.int .i64) .str) 0 d.2.2.2.2.1.2.1]⟩, some ⟨d.2.2.2.2.2.1.1, [.seq (.pair (.int .i64) .str) 0 d.2.2.2.2.2.1.2.1]⟩]) := by kernel_rfl
theorem E20_1 (F : Nat) (d : sh20_1.den) (K : KF) : evBody Try.prog (T20_1 F) 42 5 (LT20_1 F) code20 Try.f20.results.toList (encT sh20_1.vs d.1) (encH sh20_1.h d.2) K = f20_1 F d.1.2.1 d.1.2.2.1 d.2.1.2.1 d.2.1.2.2.1 d.2.1.2.2.2.1 d.2.1.2.2.2.2.1 d.2.1.2.2.2.2.2.2.2.2.1 d.2.1.2.2.2.2.2.2.2.2.2.1 d.2.1.2.2.2.2.2.2.2.2.2.2.1 d.2.2.1.2.1 d.2.2.1.2.2.1 d.2.2.1.2.2.2.1 d.2.2.1.2.2.2.2.1 d.2.2.2.1.2.1 d.2.2.2.2.1.2.1 d.2.2.2.2.2.1.2.1 (fun (y0 : Int) => K [.lf (.int .i64 y0)] [some ⟨false, [.int .i64 d.2.1.2.1, .int .i64 d.2.1.2.2.1, .int .i64 d.2.1.2.2.2.1, .int .i64 d.2.1.2.2.2.2.1, .ptr 1 0, .full 3, .full 4, .int .i64 d.2.1.2.2.2.2.2.2.2.2.1, .int .i64 d.2.1.2.2.2.2.2.2.2.2.2.1, .int .i64 d.2.1.2.2.2.2.2.2.2.2.2.2.1]⟩, some ⟨d.2.2.1.1, [.int .i64 d.2.2.1.2.1, .int .i64 d.2.2.1.2.2.1, .int .i64 d.2.2.1.2.2.2.1, .int .i64 d.2.2.1.2.2.2.2.1, .full 2]⟩, some ⟨d.2.2.2.1.1, [.seq .str 0 d.2.2.2.1.2.1]⟩, some ⟨d.2.2.2.2.1.1, [.seq (.pair (.int .i64) .str) 0 d.2.2.2.2.1.2.1]⟩, some ⟨d.2.2.2.2.2.1.1, [.seq (.pair (.int .i64) .str) 0 d.2.2.2.2.2.1.2.1]⟩]) (fun (y6 : Nat) (y7 : Nat) (y10 : Int) => K [.lf (.int .i64 0)] [some ⟨false, [.int .i64 d.2.1.2.1, .int .i64 d.2.1.2.2.1, .int .i64 d.2.1.2.2.2.1, .int .i64 d.2.1.2.2.2.2.1, .ptr 1 0, .full 3, .slice 4 0 1 y6 (some y7), .int .i64 d.2.1.2.2.2.2.2.2.2.2.1, .int .i64 d.2.1.2.2.2.2.2.2.2.2.2.1, .int .i64 y10]⟩, some ⟨d.2.2.1.1, [.int .i64 d.2.2.1.2.1, .int .i64 d.2.2.1.2.2.1, .int .i64 d.2.2.1.2.2.2.1, .int .i64 d.2.2.1.2.2.2.2.1, .full 2]⟩, some ⟨d.2.2.2.1.1, [.seq .str 0 d.2.2.2.1.2.1]⟩, some ⟨d.2.2.2.2.1.1, [.seq (.pair (.int .i64) .str) 0 d.2.2.2.2.1.2.1]⟩, some ⟨d.2.2.2.2.2.1.1, [.seq (.pair (.int .i64) .str) 0 d.2.2.2.2.2.1.2.1]⟩]) := Eq.mp (by kernel_rfl) (E20_1g F (f55_1 F) (f56_1 F) (f67_1 F) (f70_2686 F)   d K)
theorem S20_1_ok (F : Nat) (o : Summ) (ho : SoundFn Try.prog 20 o) : SoundFn Try.prog 20 (S20_1 F o) :=
  soundFn_of (fn := Try.f20) (c := code20) (by kernel_rfl) (tab_cons (S55_1_ok F _ (noS_sound enter55)) (tab_cons (S56_1_ok F _ (noS_sound enter56)) (tab_cons (S67_1_ok F _ (noS_sound enter67)) (tab_cons (S70_2686_ok F _ (noS_sound enter70)) tab_nil)))) (by kernel_rfl) (by kernel_rfl) ho (by rw [loops20]; exact loopsOK_nil) (by rw [scopes20]; exact scopesOK_nil) (E20_1 F)
end Go.Proofs.Ytillbabmlfjegaa.X
end

section
namespace Go.Proofs.Ytillbabmlfjegaa.X
open Go Go.Proofs.Ytillbabmlfjegaa.Ev Go.Proofs
set_option linter.unusedVariables false
/-! walk.Walk).Data -/
noncomputable def f20_1385 {β : Type} (F : Nat) (a1 : Int) (a2 : ByteArray) (K0 : Option β) : Option β := K0
def sh20_1385 : Sh := ⟨[.lf (.nilp), .lf (.int .i64), .lf (.str)], []⟩
noncomputable def S20_1385 (F : Nat) (o : Summ) : Summ := mkS sh20_1385 (fun d K => f20_1385 F d.1.2.1 d.1.2.2.1 (K [.lf (.int .i64 1)] [])) o
noncomputable def T20_1385 (F : Nat) : FuncId → Option Summ := tab []
noncomputable def LT20_1385 (F : Nat) : Nat → Option LoopS := ltab []
theorem E20_1385g (F : Nat)    (d : sh20_1385.den) (K : KF) : evBody Try.prog (tab []) 42 0 (ltab []) code20 Try.f20.results.toList (encT sh20_1385.vs d.1) (encH sh20_1385.h d.2) K = (fun (a1 : Int) (a2 : ByteArray) (K0 : (Option Res)) => K0) d.1.2.1 d.1.2.2.1 (K [.lf (.int .i64 1)] []) := by kernel_rfl
theorem E20_1385 (F : Nat) (d : sh20_1385.den) (K : KF) : evBody Try.prog (T20_1385 F) 42 0 (LT20_1385 F) code20 Try.f20.results.toList (encT sh20_1385.vs d.1) (encH sh20_1385.h d.2) K = f20_1385 F d.1.2.1 d.1.2.2.1 (K [.lf (.int .i64 1)] []) := Eq.mp (by kernel_rfl) (E20_1385g F    d K)
theorem S20_1385_ok (F : Nat) (o : Summ) (ho : SoundFn Try.prog 20 o) : SoundFn Try.prog 20 (S20_1385 F o) :=
  soundFn_of (fn := Try.f20) (c := code20) (by kernel_rfl) tab_nil (by kernel_rfl) (by kernel_rfl) ho (by rw [loops20]; exact loopsOK_nil) (by rw [scopes20]; exact scopesOK_nil) (E20_1385 F)
end Go.Proofs.Ytillbabmlfjegaa.X
end

section
namespace Go.Proofs.Ytillbabmlfjegaa.X
open Go Go.Proofs.Ytillbabmlfjegaa.Ev Go.Proofs
set_option linter.unusedVariables false
/-! walk.Walk).Counts -/
noncomputable def f22_568 {β : Type} (F : Nat)  (K0 : Option β) : Option β := K0
def sh22_568 : Sh := ⟨[.lf (.nilp)], []⟩
noncomputable def S22_568 (F : Nat) (o : Summ) : Summ := mkS sh22_568 (fun d K => f22_568 F (K [.lf (.int .i64 0), .lf (.int .i64 0), .lf (.int .i64 0)] [])) o
noncomputable def code22 : Code := bodyOf Try.f22
theorem scopes22 : scopesOf code22 = [] := by kernel_rfl
theorem loops22 : loopsOf code22 = [] := by kernel_rfl
theorem enter22 : ∀ args w, (callFunc 22 args).run Try.prog w = .ok (.enter 22 args) w := enter_of (fn := Try.f22) (by kernel_rfl) (by kernel_rfl) (by kernel_rfl)
noncomputable def T22_568 (F : Nat) : FuncId → Option Summ := tab []
noncomputable def LT22_568 (F : Nat) : Nat → Option LoopS := ltab []
theorem E22_568g (F : Nat)    (d : sh22_568.den) (K : KF) : evBody Try.prog (tab []) 19 0 (ltab []) code22 Try.f22.results.toList (encT sh22_568.vs d.1) (encH sh22_568.h d.2) K = (fun (K0 : (Option Res)) => K0) (K [.lf (.int .i64 0), .lf (.int .i64 0), .lf (.int .i64 0)] []) := by kernel_rfl
theorem E22_568 (F : Nat) (d : sh22_568.den) (K : KF) : evBody Try.prog (T22_568 F) 19 0 (LT22_568 F) code22 Try.f22.results.toList (encT sh22_568.vs d.1) (encH sh22_568.h d.2) K = f22_568 F (K [.lf (.int .i64 0), .lf (.int .i64 0), .lf (.int .i64 0)] []) := Eq.mp (by kernel_rfl) (E22_568g F    d K)
theorem S22_568_ok (F : Nat) (o : Summ) (ho : SoundFn Try.prog 22 o) : SoundFn Try.prog 22 (S22_568 F o) :=
  soundFn_of (fn := Try.f22) (c := code22) (by kernel_rfl) tab_nil (by kernel_rfl) (by kernel_rfl) ho (by rw [loops22]; exact loopsOK_nil) (by rw [scopes22]; exact scopesOK_nil) (E22_568 F)
end Go.Proofs.Ytillbabmlfjegaa.X
end

section
namespace Go.Proofs.Ytillbabmlfjegaa.X
open Go Go.Proofs.Ytillbabmlfjegaa.Ev Go.Proofs
set_option linter.unusedVariables false
/-! tree.From$1 -/
noncomputable def f73_1 {β : Type} (F : Nat) (a1 : ByteArray) (K0 : Bool → Option β) : Option β := f62_1 F a1 (fun x1 => K0 (!x1)) 
def sh73_1 : Sh := ⟨[.lf (.str)], []⟩
noncomputable def S73_1 (F : Nat) (o : Summ) : Summ := mkS sh73_1 (fun d K => f73_1 F d.1.1 (fun (y0 : Bool) => K [.lf (.bool y0)] [])) o
noncomputable def code73 : Code := bodyOf Try.f73
theorem scopes73 : scopesOf code73 = [] := by kernel_rfl
theorem loops73 : loopsOf code73 = [] := by kernel_rfl
theorem enter73 : ∀ args w, (callFunc 73 args).run Try.prog w = .ok (.enter 73 args) w := enter_of (fn := Try.f73) (by kernel_rfl) (by kernel_rfl) (by kernel_rfl)
noncomputable def T73_1 (F : Nat) : FuncId → Option Summ := tab [(62, (S62_1 F noS))]
noncomputable def LT73_1 (F : Nat) : Nat → Option LoopS := ltab []
theorem E73_1g (F : Nat) (c62_1 : ByteArray → (Bool → Option Res) → Option Res)   (d : sh73_1.den) (K : KF) : evBody Try.prog (tab [(62, (mkS sh62_1 (fun d K => c62_1 d.1.1 (fun (y0 : Bool) => K [.lf (.bool y0)] [])) noS))]) 6 0 (ltab []) code73 Try.f73.results.toList (encT sh73_1.vs d.1) (encH sh73_1.h d.2) K = (fun (a1 : ByteArray) (K0 : (Bool → Option Res)) => c62_1 a1 (fun x1 => K0 (!x1)) ) d.1.1 (fun (y0 : Bool) => K [.lf (.bool y0)] []) := by kernel_rfl
theorem E73_1 (F : Nat) (d : sh73_1.den) (K : KF) : evBody Try.prog (T73_1 F) 6 0 (LT73_1 F) code73 Try.f73.results.toList (encT sh73_1.vs d.1) (encH sh73_1.h d.2) K = f73_1 F d.1.1 (fun (y0 : Bool) => K [.lf (.bool y0)] []) := Eq.mp (by kernel_rfl) (E73_1g F (f62_1 F)   d K)
theorem S73_1_ok (F : Nat) (o : Summ) (ho : SoundFn Try.prog 73 o) : SoundFn Try.prog 73 (S73_1 F o) :=
  soundFn_of (fn := Try.f73) (c := code73) (by kernel_rfl) (tab_cons (S62_1_ok F _ (noS_sound enter62)) tab_nil) (by kernel_rfl) (by kernel_rfl) ho (by rw [loops73]; exact loopsOK_nil) (by rw [scopes73]; exact scopesOK_nil) (E73_1 F)
end Go.Proofs.Ytillbabmlfjegaa.X
end

section
namespace Go.Proofs.Ytillbabmlfjegaa.X
open Go Go.Proofs.Ytillbabmlfjegaa.Ev Go.Proofs
set_option linter.unusedVariables false
/-! slices.IndexFunc[[]string,string] -/
noncomputable def f96_5041_l2 {β : Type} (F : Nat) (v1 : Int) (v3 : List ByteArray) (K0 : Int → Option β) (K1 : Option β) : Nat → Int → Option β
  | 0, _ => none
  | k + 1, v2 => cond (decide (v2 < v1)) (cond (decide ((0 : Int) ≤ v2 ∧ v2 < ((v3.length : Nat) : Int))) (cond (decide (0 + v2.toNat < v3.length)) (f73_1 F (v3.getD (0 + v2.toNat) ByteArray.empty) (fun x4 => cond x4 (K0 v2) (f96_5041_l2 F v1 v3 K0 K1 k (IntKind.i64.wrap (v2 + 1)))) ) none) none) (K1)
noncomputable def f96_5041 {β : Type} (F : Nat) (a1 : List ByteArray) (K0 : Int → Option β) : Option β := f96_5041_l2 F ((a1.length : Nat) : Int) a1 (fun x5 => K0 x5) (K0 (-1)) F 0
def sh96_5041 : Sh := ⟨[.lf (.full 0), .lf (.fn 73)], [some ⟨none, [.seq .str 0]⟩]⟩
noncomputable def S96_5041 (F : Nat) (o : Summ) : Summ := mkS sh96_5041 (fun d K => f96_5041 F d.2.1.2.1 (fun (y0 : Int) => K [.lf (.int .i64 y0)] [some ⟨d.2.1.1, [.seq .str 0 d.2.1.2.1]⟩])) o
noncomputable def code96 : Code := bodyOf Try.f96
noncomputable def b96_0 : Code := cB (cB (cR (cL (cR (code96)))))
theorem scopes96 : scopesOf code96 = [] := by kernel_rfl
theorem loops96 : loopsOf code96 = [b96_0] := by kernel_rfl
theorem enter96 : ∀ args w, (callFunc 96 args).run Try.prog w = .ok (.enter 96 args) w := enter_of (fn := Try.f96) (by kernel_rfl) (by kernel_rfl) (by kernel_rfl)
noncomputable def T96_5041 (F : Nat) : FuncId → Option Summ := tab [(73, (S73_1 F noS))]
def sh96_5041_l2 : Sh := ⟨[.lf (.full 0), .lf (.fn 73), .lf (.int .i64), .lf (.int .i64)], [some ⟨none, [.seq .str 0]⟩]⟩
noncomputable def G96_5041_2 (F k : Nat) : LoopS := mkG sh96_5041_l2 [0, 1, 7, 8] (outT [(.exit 0, []), (.ret, [4])]) (fun d K => f96_5041_l2 F d.1.2.2.1 d.2.1.2.1 (fun (y0 : Int) => K .ret [.tv (.lf (.int .i64 y0))] [some ⟨d.2.1.1, [.seq .str 0 d.2.1.2.1]⟩]) (K (.exit 0) [] [some ⟨d.2.1.1, [.seq .str 0 d.2.1.2.1]⟩]) k d.1.2.2.2.1)
noncomputable def LT96_5041 (F : Nat) : Nat → Option LoopS := ltab [(2, G96_5041_2 F F)]
theorem L96_5041_2g (F k : Nat) (c73_1 : ByteArray → (Bool → Option Res) → Option Res)  (l2 : Int → List ByteArray → (Int → Option Res) → (Option Res) → Nat → Int → Option Res) (X2 : LoopS) (d : sh96_5041_l2.den) (K : KL) : (fun (v1 : Int) (v3 : List ByteArray) (K0 : (Int → Option Res)) (K1 : (Option Res)) (k : Nat) (v2 : Int) => cond (decide (v2 < v1)) (cond (decide ((0 : Int) ≤ v2 ∧ v2 < ((v3.length : Nat) : Int))) (cond (decide (0 + v2.toNat < v3.length)) (c73_1 (v3.getD (0 + v2.toNat) ByteArray.empty) (fun x4 => cond x4 (K0 v2) (l2 v1 v3 K0 K1 k (IntKind.i64.wrap (v2 + 1)))) ) none) none) (K1)) d.1.2.2.1 d.2.1.2.1 (fun (y0 : Int) => K .ret [.tv (.lf (.int .i64 y0))] [some ⟨d.2.1.1, [.seq .str 0 d.2.1.2.1]⟩]) (K (.exit 0) [] [some ⟨d.2.1.1, [.seq .str 0 d.2.1.2.1]⟩]) k d.1.2.2.2.1 = roundOf Try.prog (tab [(73, (mkS sh73_1 (fun d K => c73_1 d.1.1 (fun (y0 : Bool) => K [.lf (.bool y0)] [])) noS))]) 19 1 (ltab [(2, X2)]) (mkG sh96_5041_l2 [0, 1, 7, 8] (outT [(.exit 0, []), (.ret, [4])]) (fun d K => l2 d.1.2.2.1 d.2.1.2.1 (fun (y0 : Int) => K .ret [.tv (.lf (.int .i64 y0))] [some ⟨d.2.1.1, [.seq .str 0 d.2.1.2.1]⟩]) (K (.exit 0) [] [some ⟨d.2.1.1, [.seq .str 0 d.2.1.2.1]⟩]) k d.1.2.2.2.1)) b96_0 (encT sh96_5041_l2.vs d.1) (encH sh96_5041_l2.h d.2) K := by kernel_rfl
theorem L96_5041_2 (F : Nat) : LoopOK Try.prog (T96_5041 F) 19 1 (LT96_5041 F) (G96_5041_2 F F) b96_0 :=
  loopOK_of (s := sh96_5041_l2) (live := [0, 1, 7, 8]) (out := (outT [(.exit 0, []), (.ret, [4])])) (fun k d K => f96_5041_l2 F d.1.2.2.1 d.2.1.2.1 (fun (y0 : Int) => K .ret [.tv (.lf (.int .i64 y0))] [some ⟨d.2.1.1, [.seq .str 0 d.2.1.2.1]⟩]) (K (.exit 0) [] [some ⟨d.2.1.1, [.seq .str 0 d.2.1.2.1]⟩]) k d.1.2.2.2.1) F (fun d K => by kernel_rfl)  (fun k d K => Eq.mp (by kernel_rfl) (L96_5041_2g F k (f73_1 F)  (f96_5041_l2 F) (G96_5041_2 F F) d K))
theorem E96_5041g (F : Nat) (c73_1 : ByteArray → (Bool → Option Res) → Option Res) (l2 : Int → List ByteArray → (Int → Option Res) → (Option Res) → Nat → Int → Option Res)  (d : sh96_5041.den) (K : KF) : evBody Try.prog (tab [(73, (mkS sh73_1 (fun d K => c73_1 d.1.1 (fun (y0 : Bool) => K [.lf (.bool y0)] [])) noS))]) 19 1 (ltab [(2, mkG sh96_5041_l2 [0, 1, 7, 8] (outT [(.exit 0, []), (.ret, [4])]) (fun d K => l2 d.1.2.2.1 d.2.1.2.1 (fun (y0 : Int) => K .ret [.tv (.lf (.int .i64 y0))] [some ⟨d.2.1.1, [.seq .str 0 d.2.1.2.1]⟩]) (K (.exit 0) [] [some ⟨d.2.1.1, [.seq .str 0 d.2.1.2.1]⟩]) F d.1.2.2.2.1))]) code96 Try.f96.results.toList (encT sh96_5041.vs d.1) (encH sh96_5041.h d.2) K = (fun (a1 : List ByteArray) (K0 : (Int → Option Res)) => l2 ((a1.length : Nat) : Int) a1 (fun x5 => K0 x5) (K0 (-1)) F 0) d.2.1.2.1 (fun (y0 : Int) => K [.lf (.int .i64 y0)] [some ⟨d.2.1.1, [.seq .str 0 d.2.1.2.1]⟩]) := by kernel_rfl
theorem E96_5041 (F : Nat) (d : sh96_5041.den) (K : KF) : evBody Try.prog (T96_5041 F) 19 1 (LT96_5041 F) code96 Try.f96.results.toList (encT sh96_5041.vs d.1) (encH sh96_5041.h d.2) K = f96_5041 F d.2.1.2.1 (fun (y0 : Int) => K [.lf (.int .i64 y0)] [some ⟨d.2.1.1, [.seq .str 0 d.2.1.2.1]⟩]) := Eq.mp (by kernel_rfl) (E96_5041g F (f73_1 F) (f96_5041_l2 F)  d K)
theorem S96_5041_ok (F : Nat) (o : Summ) (ho : SoundFn Try.prog 96 o) : SoundFn Try.prog 96 (S96_5041 F o) :=
  soundFn_of (fn := Try.f96) (c := code96) (by kernel_rfl) (tab_cons (S73_1_ok F _ (noS_sound enter73)) tab_nil) (by kernel_rfl) (by kernel_rfl) ho (by rw [loops96]; exact (loopsOK_cons (by kernel_rfl) (L96_5041_2 F) loopsOK_nil)) (by rw [scopes96]; exact scopesOK_nil) (E96_5041 F)
end Go.Proofs.Ytillbabmlfjegaa.X
end

section
namespace Go.Proofs.Ytillbabmlfjegaa.X
open Go Go.Proofs.Ytillbabmlfjegaa.Ev Go.Proofs
set_option linter.unusedVariables false
/-! slices.ContainsFunc[[]string,string] -/
noncomputable def f53_5041 {β : Type} (F : Nat) (a1 : List ByteArray) (K0 : Bool → Option β) : Option β := f96_5041 F a1 (fun x1 => K0 (decide (x1 ≥ 0))) 
def sh53_5041 : Sh := ⟨[.lf (.full 0), .lf (.fn 73)], [some ⟨none, [.seq .str 0]⟩]⟩
noncomputable def S53_5041 (F : Nat) (o : Summ) : Summ := mkS sh53_5041 (fun d K => f53_5041 F d.2.1.2.1 (fun (y0 : Bool) => K [.lf (.bool y0)] [some ⟨d.2.1.1, [.seq .str 0 d.2.1.2.1]⟩])) o
noncomputable def code53 : Code := bodyOf Try.f53
theorem scopes53 : scopesOf code53 = [] := by kernel_rfl
theorem loops53 : loopsOf code53 = [] := by kernel_rfl
theorem enter53 : ∀ args w, (callFunc 53 args).run Try.prog w = .ok (.enter 53 args) w := enter_of (fn := Try.f53) (by kernel_rfl) (by kernel_rfl) (by kernel_rfl)
noncomputable def T53_5041 (F : Nat) : FuncId → Option Summ := tab [(96, (S96_5041 F noS))]
noncomputable def LT53_5041 (F : Nat) : Nat → Option LoopS := ltab []
theorem E53_5041g (F : Nat) (c96_5041 : List ByteArray → (Int → Option Res) → Option Res)   (d : sh53_5041.den) (K : KF) : evBody Try.prog (tab [(96, (mkS sh96_5041 (fun d K => c96_5041 d.2.1.2.1 (fun (y0 : Int) => K [.lf (.int .i64 y0)] [some ⟨d.2.1.1, [.seq .str 0 d.2.1.2.1]⟩])) noS))]) 9 1 (ltab []) code53 Try.f53.results.toList (encT sh53_5041.vs d.1) (encH sh53_5041.h d.2) K = (fun (a1 : List ByteArray) (K0 : (Bool → Option Res)) => c96_5041 a1 (fun x1 => K0 (decide (x1 ≥ 0))) ) d.2.1.2.1 (fun (y0 : Bool) => K [.lf (.bool y0)] [some ⟨d.2.1.1, [.seq .str 0 d.2.1.2.1]⟩]) := by kernel_rfl
theorem E53_5041 (F : Nat) (d : sh53_5041.den) (K : KF) : evBody Try.prog (T53_5041 F) 9 1 (LT53_5041 F) code53 Try.f53.results.toList (encT sh53_5041.vs d.1) (encH sh53_5041.h d.2) K = f53_5041 F d.2.1.2.1 (fun (y0 : Bool) => K [.lf (.bool y0)] [some ⟨d.2.1.1, [.seq .str 0 d.2.1.2.1]⟩]) := Eq.mp (by kernel_rfl) (E53_5041g F (f96_5041 F)   d K)
theorem S53_5041_ok (F : Nat) (o : Summ) (ho : SoundFn Try.prog 53 o) : SoundFn Try.prog 53 (S53_5041 F o) :=
  soundFn_of (fn := Try.f53) (c := code53) (by kernel_rfl) (tab_cons (S96_5041_ok F _ (noS_sound enter96)) tab_nil) (by kernel_rfl) (by kernel_rfl) ho (by rw [loops53]; exact loopsOK_nil) (by rw [scopes53]; exact scopesOK_nil) (E53_5041 F)
end Go.Proofs.Ytillbabmlfjegaa.X
end

section
namespace Go.Proofs.Ytillbabmlfjegaa.X
open Go Go.Proofs.Ytillbabmlfjegaa.Ev Go.Proofs
set_option linter.unusedVariables false
/-! tree.New$1 -/
noncomputable def f54_1 {β : Type} (F : Nat) (a1 : ByteArray) (K0 : Bool → Option β) : Option β := f55_1 F a1 (fun x1 => K0 (!x1)) 
def sh54_1 : Sh := ⟨[.lf (.str)], []⟩
noncomputable def S54_1 (F : Nat) (o : Summ) : Summ := mkS sh54_1 (fun d K => f54_1 F d.1.1 (fun (y0 : Bool) => K [.lf (.bool y0)] [])) o
noncomputable def code54 : Code := bodyOf Try.f54
theorem scopes54 : scopesOf code54 = [] := by kernel_rfl
theorem loops54 : loopsOf code54 = [] := by kernel_rfl
theorem enter54 : ∀ args w, (callFunc 54 args).run Try.prog w = .ok (.enter 54 args) w := enter_of (fn := Try.f54) (by kernel_rfl) (by kernel_rfl) (by kernel_rfl)
noncomputable def T54_1 (F : Nat) : FuncId → Option Summ := tab [(55, (S55_1 F noS))]
noncomputable def LT54_1 (F : Nat) : Nat → Option LoopS := ltab []
theorem E54_1g (F : Nat) (c55_1 : ByteArray → (Bool → Option Res) → Option Res)   (d : sh54_1.den) (K : KF) : evBody Try.prog (tab [(55, (mkS sh55_1 (fun d K => c55_1 d.1.1 (fun (y0 : Bool) => K [.lf (.bool y0)] [])) noS))]) 6 0 (ltab []) code54 Try.f54.results.toList (encT sh54_1.vs d.1) (encH sh54_1.h d.2) K = (fun (a1 : ByteArray) (K0 : (Bool → Option Res)) => c55_1 a1 (fun x1 => K0 (!x1)) ) d.1.1 (fun (y0 : Bool) => K [.lf (.bool y0)] []) := by kernel_rfl
theorem E54_1 (F : Nat) (d : sh54_1.den) (K : KF) : evBody Try.prog (T54_1 F) 6 0 (LT54_1 F) code54 Try.f54.results.toList (encT sh54_1.vs d.1) (encH sh54_1.h d.2) K = f54_1 F d.1.1 (fun (y0 : Bool) => K [.lf (.bool y0)] []) := Eq.mp (by kernel_rfl) (E54_1g F (f55_1 F)   d K)
theorem S54_1_ok (F : Nat) (o : Summ) (ho : SoundFn Try.prog 54 o) : SoundFn Try.prog 54 (S54_1 F o) :=
  soundFn_of (fn := Try.f54) (c := code54) (by kernel_rfl) (tab_cons (S55_1_ok F _ (noS_sound enter55)) tab_nil) (by kernel_rfl) (by kernel_rfl) ho (by rw [loops54]; exact loopsOK_nil) (by rw [scopes54]; exact scopesOK_nil) (E54_1 F)
end Go.Proofs.Ytillbabmlfjegaa.X
end

section
namespace Go.Proofs.Ytillbabmlfjegaa.X
open Go Go.Proofs.Ytillbabmlfjegaa.Ev Go.Proofs
set_option linter.unusedVariables false
/-! slices.IndexFunc[[]string,string] -/
noncomputable def f96_5672_l2 {β : Type} (F : Nat) (v1 : Int) (v3 : List ByteArray) (K0 : Int → Option β) (K1 : Option β) : Nat → Int → Option β
  | 0, _ => none
  | k + 1, v2 => cond (decide (v2 < v1)) (cond (decide ((0 : Int) ≤ v2 ∧ v2 < ((v3.length : Nat) : Int))) (cond (decide (0 + v2.toNat < v3.length)) (f54_1 F (v3.getD (0 + v2.toNat) ByteArray.empty) (fun x4 => cond x4 (K0 v2) (f96_5672_l2 F v1 v3 K0 K1 k (IntKind.i64.wrap (v2 + 1)))) ) none) none) (K1)
noncomputable def f96_5672 {β : Type} (F : Nat) (a1 : List ByteArray) (K0 : Int → Option β) : Option β := f96_5672_l2 F ((a1.length : Nat) : Int) a1 (fun x5 => K0 x5) (K0 (-1)) F 0
def sh96_5672 : Sh := ⟨[.lf (.full 0), .lf (.fn 54)], [some ⟨none, [.seq .str 0]⟩]⟩
noncomputable def S96_5672 (F : Nat) (o : Summ) : Summ := mkS sh96_5672 (fun d K => f96_5672 F d.2.1.2.1 (fun (y0 : Int) => K [.lf (.int .i64 y0)] [some ⟨d.2.1.1, [.seq .str 0 d.2.1.2.1]⟩])) o
noncomputable def T96_5672 (F : Nat) : FuncId → Option Summ := tab [(54, (S54_1 F noS))]
def sh96_5672_l2 : Sh := ⟨[.lf (.full 0), .lf (.fn 54), .lf (.int .i64), .lf (.int .i64)], [some ⟨none, [.seq .str 0]⟩]⟩
noncomputable def G96_5672_2 (F k : Nat) : LoopS := mkG sh96_5672_l2 [0, 1, 7, 8] (outT [(.exit 0, []), (.ret, [4])]) (fun d K => f96_5672_l2 F d.1.2.2.1 d.2.1.2.1 (fun (y0 : Int) => K .ret [.tv (.lf (.int .i64 y0))] [some ⟨d.2.1.1, [.seq .str 0 d.2.1.2.1]⟩]) (K (.exit 0) [] [some ⟨d.2.1.1, [.seq .str 0 d.2.1.2.1]⟩]) k d.1.2.2.2.1)
noncomputable def LT96_5672 (F : Nat) : Nat → Option LoopS := ltab [(2, G96_5672_2 F F)]
theorem L96_5672_2g (F k : Nat) (c54_1 : ByteArray → (Bool → Option Res) → Option Res)  (l2 : Int → List ByteArray → (Int → Option Res) → (Option Res) → Nat → Int → Option Res) (X2 : LoopS) (d : sh96_5672_l2.den) (K : KL) : (fun (v1 : Int) (v3 : List ByteArray) (K0 : (Int → Option Res)) (K1 : (Option Res)) (k : Nat) (v2 : Int) => cond (decide (v2 < v1)) (cond (decide ((0 : Int) ≤ v2 ∧ v2 < ((v3.length : Nat) : Int))) (cond (decide (0 + v2.toNat < v3.length)) (c54_1 (v3.getD (0 + v2.toNat) ByteArray.empty) (fun x4 => cond x4 (K0 v2) (l2 v1 v3 K0 K1 k (IntKind.i64.wrap (v2 + 1)))) ) none) none) (K1)) d.1.2.2.1 d.2.1.2.1 (fun (y0 : Int) => K .ret [.tv (.lf (.int .i64 y0))] [some ⟨d.2.1.1, [.seq .str 0 d.2.1.2.1]⟩]) (K (.exit 0) [] [some ⟨d.2.1.1, [.seq .str 0 d.2.1.2.1]⟩]) k d.1.2.2.2.1 = roundOf Try.prog (tab [(54, (mkS sh54_1 (fun d K => c54_1 d.1.1 (fun (y0 : Bool) => K [.lf (.bool y0)] [])) noS))]) 19 1 (ltab [(2, X2)]) (mkG sh96_5672_l2 [0, 1, 7, 8] (outT [(.exit 0, []), (.ret, [4])]) (fun d K => l2 d.1.2.2.1 d.2.1.2.1 (fun (y0 : Int) => K .ret [.tv (.lf (.int .i64 y0))] [some ⟨d.2.1.1, [.seq .str 0 d.2.1.2.1]⟩]) (K (.exit 0) [] [some ⟨d.2.1.1, [.seq .str 0 d.2.1.2.1]⟩]) k d.1.2.2.2.1)) b96_0 (encT sh96_5672_l2.vs d.1) (encH sh96_5672_l2.h d.2) K := by kernel_rfl
theorem L96_5672_2 (F : Nat) : LoopOK Try.prog (T96_5672 F) 19 1 (LT96_5672 F) (G96_5672_2 F F) b96_0 :=
  loopOK_of (s := sh96_5672_l2) (live := [0, 1, 7, 8]) (out := (outT [(.exit 0, []), (.ret, [4])])) (fun k d K => f96_5672_l2 F d.1.2.2.1 d.2.1.2.1 (fun (y0 : Int) => K .ret [.tv (.lf (.int .i64 y0))] [some ⟨d.2.1.1, [.seq .str 0 d.2.1.2.1]⟩]) (K (.exit 0) [] [some ⟨d.2.1.1, [.seq .str 0 d.2.1.2.1]⟩]) k d.1.2.2.2.1) F (fun d K => by kernel_rfl)  (fun k d K => Eq.mp (by kernel_rfl) (L96_5672_2g F k (f54_1 F)  (f96_5672_l2 F) (G96_5672_2 F F) d K))
theorem E96_5672g (F : Nat) (c54_1 : ByteArray → (Bool → Option Res) → Option Res) (l2 : Int → List ByteArray → (Int → Option Res) → (Option Res) → Nat → Int → Option Res)  (d : sh96_5672.den) (K : KF) : evBody Try.prog (tab [(54, (mkS sh54_1 (fun d K => c54_1 d.1.1 (fun (y0 : Bool) => K [.lf (.bool y0)] [])) noS))]) 19 1 (ltab [(2, mkG sh96_5672_l2 [0, 1, 7, 8] (outT [(.exit 0, []), (.ret, [4])]) (fun d K => l2 d.1.2.2.1 d.2.1.2.1 (fun (y0 : Int) => K .ret [.tv (.lf (.int .i64 y0))] [some ⟨d.2.1.1, [.seq .str 0 d.2.1.2.1]⟩]) (K (.exit 0) [] [some ⟨d.2.1.1, [.seq .str 0 d.2.1.2.1]⟩]) F d.1.2.2.2.1))]) code96 Try.f96.results.toList (encT sh96_5672.vs d.1) (encH sh96_5672.h d.2) K = (fun (a1 : List ByteArray) (K0 : (Int → Option Res)) => l2 ((a1.length : Nat) : Int) a1 (fun x5 => K0 x5) (K0 (-1)) F 0) d.2.1.2.1 (fun (y0 : Int) => K [.lf (.int .i64 y0)] [some ⟨d.2.1.1, [.seq .str 0 d.2.1.2.1]⟩]) := by kernel_rfl
theorem E96_5672 (F : Nat) (d : sh96_5672.den) (K : KF) : evBody Try.prog (T96_5672 F) 19 1 (LT96_5672 F) code96 Try.f96.results.toList (encT sh96_5672.vs d.1) (encH sh96_5672.h d.2) K = f96_5672 F d.2.1.2.1 (fun (y0 : Int) => K [.lf (.int .i64 y0)] [some ⟨d.2.1.1, [.seq .str 0 d.2.1.2.1]⟩]) := Eq.mp (by kernel_rfl) (E96_5672g F (f54_1 F) (f96_5672_l2 F)  d K)
theorem S96_5672_ok (F : Nat) (o : Summ) (ho : SoundFn Try.prog 96 o) : SoundFn Try.prog 96 (S96_5672 F o) :=
  soundFn_of (fn := Try.f96) (c := code96) (by kernel_rfl) (tab_cons (S54_1_ok F _ (noS_sound enter54)) tab_nil) (by kernel_rfl) (by kernel_rfl) ho (by rw [loops96]; exact (loopsOK_cons (by kernel_rfl) (L96_5672_2 F) loopsOK_nil)) (by rw [scopes96]; exact scopesOK_nil) (E96_5672 F)
end Go.Proofs.Ytillbabmlfjegaa.X
end

section
namespace Go.Proofs.Ytillbabmlfjegaa.X
open Go Go.Proofs.Ytillbabmlfjegaa.Ev Go.Proofs
set_option linter.unusedVariables false
/-! slices.ContainsFunc[[]string,string] -/
noncomputable def f53_5672 {β : Type} (F : Nat) (a1 : List ByteArray) (K0 : Bool → Option β) : Option β := f96_5672 F a1 (fun x1 => K0 (decide (x1 ≥ 0))) 
def sh53_5672 : Sh := ⟨[.lf (.full 0), .lf (.fn 54)], [some ⟨none, [.seq .str 0]⟩]⟩
noncomputable def S53_5672 (F : Nat) (o : Summ) : Summ := mkS sh53_5672 (fun d K => f53_5672 F d.2.1.2.1 (fun (y0 : Bool) => K [.lf (.bool y0)] [some ⟨d.2.1.1, [.seq .str 0 d.2.1.2.1]⟩])) o
noncomputable def T53_5672 (F : Nat) : FuncId → Option Summ := tab [(96, (S96_5672 F noS))]
noncomputable def LT53_5672 (F : Nat) : Nat → Option LoopS := ltab []
theorem E53_5672g (F : Nat) (c96_5672 : List ByteArray → (Int → Option Res) → Option Res)   (d : sh53_5672.den) (K : KF) : evBody Try.prog (tab [(96, (mkS sh96_5672 (fun d K => c96_5672 d.2.1.2.1 (fun (y0 : Int) => K [.lf (.int .i64 y0)] [some ⟨d.2.1.1, [.seq .str 0 d.2.1.2.1]⟩])) noS))]) 9 1 (ltab []) code53 Try.f53.results.toList (encT sh53_5672.vs d.1) (encH sh53_5672.h d.2) K = (fun (a1 : List ByteArray) (K0 : (Bool → Option Res)) => c96_5672 a1 (fun x1 => K0 (decide (x1 ≥ 0))) ) d.2.1.2.1 (fun (y0 : Bool) => K [.lf (.bool y0)] [some ⟨d.2.1.1, [.seq .str 0 d.2.1.2.1]⟩]) := by kernel_rfl
theorem E53_5672 (F : Nat) (d : sh53_5672.den) (K : KF) : evBody Try.prog (T53_5672 F) 9 1 (LT53_5672 F) code53 Try.f53.results.toList (encT sh53_5672.vs d.1) (encH sh53_5672.h d.2) K = f53_5672 F d.2.1.2.1 (fun (y0 : Bool) => K [.lf (.bool y0)] [some ⟨d.2.1.1, [.seq .str 0 d.2.1.2.1]⟩]) := Eq.mp (by kernel_rfl) (E53_5672g F (f96_5672 F)   d K)
theorem S53_5672_ok (F : Nat) (o : Summ) (ho : SoundFn Try.prog 53 o) : SoundFn Try.prog 53 (S53_5672 F o) :=
  soundFn_of (fn := Try.f53) (c := code53) (by kernel_rfl) (tab_cons (S96_5672_ok F _ (noS_sound enter96)) tab_nil) (by kernel_rfl) (by kernel_rfl) ho (by rw [loops53]; exact loopsOK_nil) (by rw [scopes53]; exact scopesOK_nil) (E53_5672 F)
end Go.Proofs.Ytillbabmlfjegaa.X
end

section
namespace Go.Proofs.Ytillbabmlfjegaa.X
open Go Go.Proofs.Ytillbabmlfjegaa.Ev Go.Proofs
set_option linter.unusedVariables false
/-! geom.level -/
noncomputable def f101_1_l3 {β : Type} (F : Nat) (v2 : Int) (v4 : Int) (v6 : List Int) (K0 : Int → Int → Option β) (K1 : Option β) : Nat → Int → Int → Option β
  | 0, _, _ => none
  | k + 1, v3, v5 => cond (decide (v5 < v4)) (cond (decide ((0 : Int) ≤ v5 ∧ v5 < ((v6.length : Nat) : Int))) (cond (decide (0 + v5.toNat < v6.length)) (f95_1 F v2 v3 (IntKind.i64.wrap ((IntKind.i64.wrap (v3 + (v6.getD (0 + v5.toNat) 0))) - 1)) (fun x7 => cond x7 (K0 v5 v3) (f101_1_l3 F v2 v4 v6 K0 K1 k (IntKind.i64.wrap (v3 + (v6.getD (0 + v5.toNat) 0))) (IntKind.i64.wrap (v5 + 1)))) ) none) none) (K1)
noncomputable def f101_1 {β : Type} (F : Nat) (a1 : Int) (a2 : Int) (a3 : Int) (a4 : Int) (a5 : Int) (K0 : Int → Int → Bool → Option β) : Option β := f102_1 F a1 a2 a3 a4 (fun x1 => f101_1_l3 F a5 ((x1.length : Nat) : Int) x1 (fun x8 x9 => K0 x8 x9 true) (K0 0 0 false) F 0 0) 
def sh101_1 : Sh := ⟨[.agg [.int .i64, .int .i64, .int .i64, .int .i64], .lf (.int .i64)], []⟩
noncomputable def S101_1 (F : Nat) (o : Summ) : Summ := mkS sh101_1 (fun d K => f101_1 F d.1.1.1 d.1.1.2.1 d.1.1.2.2.1 d.1.1.2.2.2.1 d.1.2.1 (fun (y0 : Int) (y1 : Int) (y2 : Bool) => K [.lf (.int .i64 y0), .lf (.int .i64 y1), .lf (.bool y2)] [])) o
noncomputable def code101 : Code := bodyOf Try.f101
noncomputable def b101_0 : Code := cB (cB (cR (cL (cR (cR (code101))))))
theorem scopes101 : scopesOf code101 = [] := by kernel_rfl
theorem loops101 : loopsOf code101 = [b101_0] := by kernel_rfl
theorem enter101 : ∀ args w, (callFunc 101 args).run Try.prog w = .ok (.enter 101 args) w := enter_of (fn := Try.f101) (by kernel_rfl) (by kernel_rfl) (by kernel_rfl)
noncomputable def T101_1 (F : Nat) : FuncId → Option Summ := tab [(95, (S95_1 F noS)), (102, (S102_1 F noS))]
def sh101_1_l3 : Sh := ⟨[.lf (.int .i64), .lf (.int .i64), .lf (.full 0), .lf (.int .i64), .lf (.int .i64)], [some ⟨some false, [.seq (.int .i64) 0]⟩]⟩
noncomputable def G101_1_3 (F k : Nat) : LoopS := mkG sh101_1_l3 [1, 7, 11, 12, 13] (outT [(.exit 0, []), (.ret, [4, 5, 6])]) (fun d K => f101_1_l3 F d.1.1 d.1.2.2.2.1 d.2.1.2.1 (fun (y0 : Int) (y1 : Int) => K .ret [.tv (.lf (.int .i64 y0)), .tv (.lf (.int .i64 y1)), .tv (.lf (.bool true))] [some ⟨false, [.seq (.int .i64) 0 d.2.1.2.1]⟩]) (K (.exit 0) [] [some ⟨false, [.seq (.int .i64) 0 d.2.1.2.1]⟩]) k d.1.2.1 d.1.2.2.2.2.1)
noncomputable def LT101_1 (F : Nat) : Nat → Option LoopS := ltab [(3, G101_1_3 F F)]
theorem L101_1_3g (F k : Nat) (c95_1 : Int → Int → Int → (Bool → Option Res) → Option Res) (c102_1 : Int → Int → Int → Int → (List Int → Option Res) → Option Res)  (l3 : Int → Int → List Int → (Int → Int → Option Res) → (Option Res) → Nat → Int → Int → Option Res) (X3 : LoopS) (d : sh101_1_l3.den) (K : KL) : (fun (v2 : Int) (v4 : Int) (v6 : List Int) (K0 : (Int → Int → Option Res)) (K1 : (Option Res)) (k : Nat) (v3 : Int) (v5 : Int) => cond (decide (v5 < v4)) (cond (decide ((0 : Int) ≤ v5 ∧ v5 < ((v6.length : Nat) : Int))) (cond (decide (0 + v5.toNat < v6.length)) (c95_1 v2 v3 (IntKind.i64.wrap ((IntKind.i64.wrap (v3 + (v6.getD (0 + v5.toNat) 0))) - 1)) (fun x7 => cond x7 (K0 v5 v3) (l3 v2 v4 v6 K0 K1 k (IntKind.i64.wrap (v3 + (v6.getD (0 + v5.toNat) 0))) (IntKind.i64.wrap (v5 + 1)))) ) none) none) (K1)) d.1.1 d.1.2.2.2.1 d.2.1.2.1 (fun (y0 : Int) (y1 : Int) => K .ret [.tv (.lf (.int .i64 y0)), .tv (.lf (.int .i64 y1)), .tv (.lf (.bool true))] [some ⟨false, [.seq (.int .i64) 0 d.2.1.2.1]⟩]) (K (.exit 0) [] [some ⟨false, [.seq (.int .i64) 0 d.2.1.2.1]⟩]) k d.1.2.1 d.1.2.2.2.2.1 = roundOf Try.prog (tab [(95, (mkS sh95_1 (fun d K => c95_1 d.1.1 d.1.2.1 d.1.2.2.1 (fun (y0 : Bool) => K [.lf (.bool y0)] [])) noS)), (102, (mkS sh102_1 (fun d K => c102_1 d.1.1.1 d.1.1.2.1 d.1.1.2.2.1 d.1.1.2.2.2.1 (fun (y0 : List Int) => K [.lf (.full 0)] [some ⟨false, [.seq (.int .i64) 0 y0]⟩])) noS))]) 31 0 (ltab [(3, X3)]) (mkG sh101_1_l3 [1, 7, 11, 12, 13] (outT [(.exit 0, []), (.ret, [4, 5, 6])]) (fun d K => l3 d.1.1 d.1.2.2.2.1 d.2.1.2.1 (fun (y0 : Int) (y1 : Int) => K .ret [.tv (.lf (.int .i64 y0)), .tv (.lf (.int .i64 y1)), .tv (.lf (.bool true))] [some ⟨false, [.seq (.int .i64) 0 d.2.1.2.1]⟩]) (K (.exit 0) [] [some ⟨false, [.seq (.int .i64) 0 d.2.1.2.1]⟩]) k d.1.2.1 d.1.2.2.2.2.1)) b101_0 (encT sh101_1_l3.vs d.1) (encH sh101_1_l3.h d.2) K := by kernel_rfl
theorem L101_1_3 (F : Nat) : LoopOK Try.prog (T101_1 F) 31 0 (LT101_1 F) (G101_1_3 F F) b101_0 :=
  loopOK_of (s := sh101_1_l3) (live := [1, 7, 11, 12, 13]) (out := (outT [(.exit 0, []), (.ret, [4, 5, 6])])) (fun k d K => f101_1_l3 F d.1.1 d.1.2.2.2.1 d.2.1.2.1 (fun (y0 : Int) (y1 : Int) => K .ret [.tv (.lf (.int .i64 y0)), .tv (.lf (.int .i64 y1)), .tv (.lf (.bool true))] [some ⟨false, [.seq (.int .i64) 0 d.2.1.2.1]⟩]) (K (.exit 0) [] [some ⟨false, [.seq (.int .i64) 0 d.2.1.2.1]⟩]) k d.1.2.1 d.1.2.2.2.2.1) F (fun d K => by kernel_rfl)  (fun k d K => Eq.mp (by kernel_rfl) (L101_1_3g F k (f95_1 F) (f102_1 F)  (f101_1_l3 F) (G101_1_3 F F) d K))
theorem E101_1g (F : Nat) (c95_1 : Int → Int → Int → (Bool → Option Res) → Option Res) (c102_1 : Int → Int → Int → Int → (List Int → Option Res) → Option Res) (l3 : Int → Int → List Int → (Int → Int → Option Res) → (Option Res) → Nat → Int → Int → Option Res)  (d : sh101_1.den) (K : KF) : evBody Try.prog (tab [(95, (mkS sh95_1 (fun d K => c95_1 d.1.1 d.1.2.1 d.1.2.2.1 (fun (y0 : Bool) => K [.lf (.bool y0)] [])) noS)), (102, (mkS sh102_1 (fun d K => c102_1 d.1.1.1 d.1.1.2.1 d.1.1.2.2.1 d.1.1.2.2.2.1 (fun (y0 : List Int) => K [.lf (.full 0)] [some ⟨false, [.seq (.int .i64) 0 y0]⟩])) noS))]) 31 0 (ltab [(3, mkG sh101_1_l3 [1, 7, 11, 12, 13] (outT [(.exit 0, []), (.ret, [4, 5, 6])]) (fun d K => l3 d.1.1 d.1.2.2.2.1 d.2.1.2.1 (fun (y0 : Int) (y1 : Int) => K .ret [.tv (.lf (.int .i64 y0)), .tv (.lf (.int .i64 y1)), .tv (.lf (.bool true))] [some ⟨false, [.seq (.int .i64) 0 d.2.1.2.1]⟩]) (K (.exit 0) [] [some ⟨false, [.seq (.int .i64) 0 d.2.1.2.1]⟩]) F d.1.2.1 d.1.2.2.2.2.1))]) code101 Try.f101.results.toList (encT sh101_1.vs d.1) (encH sh101_1.h d.2) K = (fun (a1 : Int) (a2 : Int) (a3 : Int) (a4 : Int) (a5 : Int) (K0 : (Int → Int → Bool → Option Res)) => c102_1 a1 a2 a3 a4 (fun x1 => l3 a5 ((x1.length : Nat) : Int) x1 (fun x8 x9 => K0 x8 x9 true) (K0 0 0 false) F 0 0) ) d.1.1.1 d.1.1.2.1 d.1.1.2.2.1 d.1.1.2.2.2.1 d.1.2.1 (fun (y0 : Int) (y1 : Int) (y2 : Bool) => K [.lf (.int .i64 y0), .lf (.int .i64 y1), .lf (.bool y2)] []) := by kernel_rfl
theorem E101_1 (F : Nat) (d : sh101_1.den) (K : KF) : evBody Try.prog (T101_1 F) 31 0 (LT101_1 F) code101 Try.f101.results.toList (encT sh101_1.vs d.1) (encH sh101_1.h d.2) K = f101_1 F d.1.1.1 d.1.1.2.1 d.1.1.2.2.1 d.1.1.2.2.2.1 d.1.2.1 (fun (y0 : Int) (y1 : Int) (y2 : Bool) => K [.lf (.int .i64 y0), .lf (.int .i64 y1), .lf (.bool y2)] []) := Eq.mp (by kernel_rfl) (E101_1g F (f95_1 F) (f102_1 F) (f101_1_l3 F)  d K)
theorem S101_1_ok (F : Nat) (o : Summ) (ho : SoundFn Try.prog 101 o) : SoundFn Try.prog 101 (S101_1 F o) :=
  soundFn_of (fn := Try.f101) (c := code101) (by kernel_rfl) (tab_cons (S95_1_ok F _ (noS_sound enter95)) (tab_cons (S102_1_ok F _ (noS_sound enter102)) tab_nil)) (by kernel_rfl) (by kernel_rfl) ho (by rw [loops101]; exact (loopsOK_cons (by kernel_rfl) (L101_1_3 F) loopsOK_nil)) (by rw [scopes101]; exact scopesOK_nil) (E101_1 F)
end Go.Proofs.Ytillbabmlfjegaa.X
end

section
namespace Go.Proofs.Ytillbabmlfjegaa.X
open Go Go.Proofs.Ytillbabmlfjegaa.Ev Go.Proofs
set_option linter.unusedVariables false
/-! geom.Children -/
noncomputable def f68_1_l7 {β : Type} (F : Nat) (v5 : Int) (v6 : Int) (v7 : Int) (v8 : Int) (v10 : Int) (v11 : Int) (v12 : Int) (v13 : Int) (K0 : List Int → Option β) : Nat → Int → List Int → Option β
  | 0, _, _ => none
  | k + 1, v9, v14 => cond (decide (v9 < v8)) (cond (decide (IntKind.i64.wrap ((IntKind.i64.wrap ((IntKind.i64.wrap (v5 - v6)) * v11)) + v9) < v7)) (cond (decide ((v14.length + 1) * 8 ≤ 70368744177664)) (f68_1_l7 F v5 v6 v7 v8 v10 v11 v12 v13 K0 k (IntKind.i64.wrap (v9 + 1)) (v14 ++ [IntKind.i64.wrap ((IntKind.i64.wrap (v6 - v7)) + (IntKind.i64.wrap ((IntKind.i64.wrap ((IntKind.i64.wrap (v5 - v6)) * v11)) + v9)))])) none) (f68_1_l7 F v5 v6 v7 v8 v10 v11 v12 v13 K0 k (IntKind.i64.wrap (v9 + 1)) v14)) (K0 v14)
noncomputable def f68_1 {β : Type} (F : Nat) (a1 : Int) (a2 : Int) (a3 : Int) (a4 : Int) (a5 : Int) (K0 : List Int → Option β) : Option β := f101_1 F a1 a2 a3 a4 a5 (fun x1 x2 x3 => cond (!x3) (K0 []) (cond (x1 == 0) (K0 []) (f102_1 F a1 a2 a3 a4 (fun x4 => cond (decide ((0 : Int) ≤ IntKind.i64.wrap (x1 - 1) ∧ IntKind.i64.wrap (x1 - 1) < ((x4.length : Nat) : Int))) (cond (decide (0 + ((IntKind.i64.wrap (x1 - 1)).toNat) < x4.length)) (f68_1_l7 F a5 x2 (x4.getD (0 + ((IntKind.i64.wrap (x1 - 1)).toNat)) 0) a2 a1 a2 a3 a4 (fun x15 => K0 x15) F 0 []) none) none) ))) 
def sh68_1 : Sh := ⟨[.agg [.int .i64, .int .i64, .int .i64, .int .i64], .lf (.int .i64)], []⟩
noncomputable def S68_1 (F : Nat) (o : Summ) : Summ := mkS sh68_1 (fun d K => f68_1 F d.1.1.1 d.1.1.2.1 d.1.1.2.2.1 d.1.1.2.2.2.1 d.1.2.1 (fun (y0 : List Int) => K [.lf (.full 0)] [some ⟨false, [.seq (.int .i64) 0 y0]⟩])) o
noncomputable def code68 : Code := bodyOf Try.f68
noncomputable def b68_0 : Code := cB (cB (cR (cL (cR (cR (cR (cR (cR (code68)))))))))
theorem scopes68 : scopesOf code68 = [] := by kernel_rfl
theorem loops68 : loopsOf code68 = [b68_0] := by kernel_rfl
theorem enter68 : ∀ args w, (callFunc 68 args).run Try.prog w = .ok (.enter 68 args) w := enter_of (fn := Try.f68) (by kernel_rfl) (by kernel_rfl) (by kernel_rfl)
noncomputable def T68_1 (F : Nat) : FuncId → Option Summ := tab [(101, (S101_1 F noS)), (102, (S102_1 F noS))]
def sh68_1_l7 : Sh := ⟨[.lf (.int .i64), .lf (.ptr 0 0), .lf (.int .i64), .lf (.int .i64), .lf (.full 1), .lf (.int .i64), .lf (.int .i64)], [some ⟨some false, [.int .i64, .int .i64, .int .i64, .int .i64]⟩, some ⟨some false, [.seq (.int .i64) 0]⟩]⟩
noncomputable def G68_1_7 (F k : Nat) : LoopS := mkG sh68_1_l7 [1, 2, 6, 8, 9, 32, 33] (outT [(.exit 0, [9])]) (fun d K => f68_1_l7 F d.1.1 d.1.2.2.1 d.1.2.2.2.1 d.1.2.2.2.2.2.1 d.2.1.2.1 d.2.1.2.2.1 d.2.1.2.2.2.1 d.2.1.2.2.2.2.1 (fun (y4 : List Int) => K (.exit 0) [.tv (.lf (.full 1))] [some ⟨false, [.int .i64 d.2.1.2.1, .int .i64 d.2.1.2.2.1, .int .i64 d.2.1.2.2.2.1, .int .i64 d.2.1.2.2.2.2.1]⟩, some ⟨false, [.seq (.int .i64) 0 y4]⟩]) k d.1.2.2.2.2.2.2.1 d.2.2.1.2.1)
noncomputable def LT68_1 (F : Nat) : Nat → Option LoopS := ltab [(7, G68_1_7 F F)]
theorem L68_1_7g (F k : Nat) (c101_1 : Int → Int → Int → Int → Int → (Int → Int → Bool → Option Res) → Option Res) (c102_1 : Int → Int → Int → Int → (List Int → Option Res) → Option Res)  (l7 : Int → Int → Int → Int → Int → Int → Int → Int → (List Int → Option Res) → Nat → Int → List Int → Option Res) (X7 : LoopS) (d : sh68_1_l7.den) (K : KL) : (fun (v5 : Int) (v6 : Int) (v7 : Int) (v8 : Int) (v10 : Int) (v11 : Int) (v12 : Int) (v13 : Int) (K0 : (List Int → Option Res)) (k : Nat) (v9 : Int) (v14 : List Int) => cond (decide (v9 < v8)) (cond (decide (IntKind.i64.wrap ((IntKind.i64.wrap ((IntKind.i64.wrap (v5 - v6)) * v11)) + v9) < v7)) (cond (decide ((v14.length + 1) * 8 ≤ 70368744177664)) (l7 v5 v6 v7 v8 v10 v11 v12 v13 K0 k (IntKind.i64.wrap (v9 + 1)) (v14 ++ [IntKind.i64.wrap ((IntKind.i64.wrap (v6 - v7)) + (IntKind.i64.wrap ((IntKind.i64.wrap ((IntKind.i64.wrap (v5 - v6)) * v11)) + v9)))])) none) (l7 v5 v6 v7 v8 v10 v11 v12 v13 K0 k (IntKind.i64.wrap (v9 + 1)) v14)) (K0 v14)) d.1.1 d.1.2.2.1 d.1.2.2.2.1 d.1.2.2.2.2.2.1 d.2.1.2.1 d.2.1.2.2.1 d.2.1.2.2.2.1 d.2.1.2.2.2.2.1 (fun (y4 : List Int) => K (.exit 0) [.tv (.lf (.full 1))] [some ⟨false, [.int .i64 d.2.1.2.1, .int .i64 d.2.1.2.2.1, .int .i64 d.2.1.2.2.2.1, .int .i64 d.2.1.2.2.2.2.1]⟩, some ⟨false, [.seq (.int .i64) 0 y4]⟩]) k d.1.2.2.2.2.2.2.1 d.2.2.1.2.1 = roundOf Try.prog (tab [(101, (mkS sh101_1 (fun d K => c101_1 d.1.1.1 d.1.1.2.1 d.1.1.2.2.1 d.1.1.2.2.2.1 d.1.2.1 (fun (y0 : Int) (y1 : Int) (y2 : Bool) => K [.lf (.int .i64 y0), .lf (.int .i64 y1), .lf (.bool y2)] [])) noS)), (102, (mkS sh102_1 (fun d K => c102_1 d.1.1.1 d.1.1.2.1 d.1.1.2.2.1 d.1.1.2.2.2.1 (fun (y0 : List Int) => K [.lf (.full 0)] [some ⟨false, [.seq (.int .i64) 0 y0]⟩])) noS))]) 57 0 (ltab [(7, X7)]) (mkG sh68_1_l7 [1, 2, 6, 8, 9, 32, 33] (outT [(.exit 0, [9])]) (fun d K => l7 d.1.1 d.1.2.2.1 d.1.2.2.2.1 d.1.2.2.2.2.2.1 d.2.1.2.1 d.2.1.2.2.1 d.2.1.2.2.2.1 d.2.1.2.2.2.2.1 (fun (y4 : List Int) => K (.exit 0) [.tv (.lf (.full 1))] [some ⟨false, [.int .i64 d.2.1.2.1, .int .i64 d.2.1.2.2.1, .int .i64 d.2.1.2.2.2.1, .int .i64 d.2.1.2.2.2.2.1]⟩, some ⟨false, [.seq (.int .i64) 0 y4]⟩]) k d.1.2.2.2.2.2.2.1 d.2.2.1.2.1)) b68_0 (encT sh68_1_l7.vs d.1) (encH sh68_1_l7.h d.2) K := by kernel_rfl
theorem L68_1_7 (F : Nat) : LoopOK Try.prog (T68_1 F) 57 0 (LT68_1 F) (G68_1_7 F F) b68_0 :=
  loopOK_of (s := sh68_1_l7) (live := [1, 2, 6, 8, 9, 32, 33]) (out := (outT [(.exit 0, [9])])) (fun k d K => f68_1_l7 F d.1.1 d.1.2.2.1 d.1.2.2.2.1 d.1.2.2.2.2.2.1 d.2.1.2.1 d.2.1.2.2.1 d.2.1.2.2.2.1 d.2.1.2.2.2.2.1 (fun (y4 : List Int) => K (.exit 0) [.tv (.lf (.full 1))] [some ⟨false, [.int .i64 d.2.1.2.1, .int .i64 d.2.1.2.2.1, .int .i64 d.2.1.2.2.2.1, .int .i64 d.2.1.2.2.2.2.1]⟩, some ⟨false, [.seq (.int .i64) 0 y4]⟩]) k d.1.2.2.2.2.2.2.1 d.2.2.1.2.1) F (fun d K => by kernel_rfl)  (fun k d K => Eq.mp (by kernel_rfl) (L68_1_7g F k (f101_1 F) (f102_1 F)  (f68_1_l7 F) (G68_1_7 F F) d K))
theorem E68_1g (F : Nat) (c101_1 : Int → Int → Int → Int → Int → (Int → Int → Bool → Option Res) → Option Res) (c102_1 : Int → Int → Int → Int → (List Int → Option Res) → Option Res) (l7 : Int → Int → Int → Int → Int → Int → Int → Int → (List Int → Option Res) → Nat → Int → List Int → Option Res)  (d : sh68_1.den) (K : KF) : evBody Try.prog (tab [(101, (mkS sh101_1 (fun d K => c101_1 d.1.1.1 d.1.1.2.1 d.1.1.2.2.1 d.1.1.2.2.2.1 d.1.2.1 (fun (y0 : Int) (y1 : Int) (y2 : Bool) => K [.lf (.int .i64 y0), .lf (.int .i64 y1), .lf (.bool y2)] [])) noS)), (102, (mkS sh102_1 (fun d K => c102_1 d.1.1.1 d.1.1.2.1 d.1.1.2.2.1 d.1.1.2.2.2.1 (fun (y0 : List Int) => K [.lf (.full 0)] [some ⟨false, [.seq (.int .i64) 0 y0]⟩])) noS))]) 57 0 (ltab [(7, mkG sh68_1_l7 [1, 2, 6, 8, 9, 32, 33] (outT [(.exit 0, [9])]) (fun d K => l7 d.1.1 d.1.2.2.1 d.1.2.2.2.1 d.1.2.2.2.2.2.1 d.2.1.2.1 d.2.1.2.2.1 d.2.1.2.2.2.1 d.2.1.2.2.2.2.1 (fun (y4 : List Int) => K (.exit 0) [.tv (.lf (.full 1))] [some ⟨false, [.int .i64 d.2.1.2.1, .int .i64 d.2.1.2.2.1, .int .i64 d.2.1.2.2.2.1, .int .i64 d.2.1.2.2.2.2.1]⟩, some ⟨false, [.seq (.int .i64) 0 y4]⟩]) F d.1.2.2.2.2.2.2.1 d.2.2.1.2.1))]) code68 Try.f68.results.toList (encT sh68_1.vs d.1) (encH sh68_1.h d.2) K = (fun (a1 : Int) (a2 : Int) (a3 : Int) (a4 : Int) (a5 : Int) (K0 : (List Int → Option Res)) => c101_1 a1 a2 a3 a4 a5 (fun x1 x2 x3 => cond (!x3) (K0 []) (cond (x1 == 0) (K0 []) (c102_1 a1 a2 a3 a4 (fun x4 => cond (decide ((0 : Int) ≤ IntKind.i64.wrap (x1 - 1) ∧ IntKind.i64.wrap (x1 - 1) < ((x4.length : Nat) : Int))) (cond (decide (0 + ((IntKind.i64.wrap (x1 - 1)).toNat) < x4.length)) (l7 a5 x2 (x4.getD (0 + ((IntKind.i64.wrap (x1 - 1)).toNat)) 0) a2 a1 a2 a3 a4 (fun x15 => K0 x15) F 0 []) none) none) ))) ) d.1.1.1 d.1.1.2.1 d.1.1.2.2.1 d.1.1.2.2.2.1 d.1.2.1 (fun (y0 : List Int) => K [.lf (.full 0)] [some ⟨false, [.seq (.int .i64) 0 y0]⟩]) := by kernel_rfl
theorem E68_1 (F : Nat) (d : sh68_1.den) (K : KF) : evBody Try.prog (T68_1 F) 57 0 (LT68_1 F) code68 Try.f68.results.toList (encT sh68_1.vs d.1) (encH sh68_1.h d.2) K = f68_1 F d.1.1.1 d.1.1.2.1 d.1.1.2.2.1 d.1.1.2.2.2.1 d.1.2.1 (fun (y0 : List Int) => K [.lf (.full 0)] [some ⟨false, [.seq (.int .i64) 0 y0]⟩]) := Eq.mp (by kernel_rfl) (E68_1g F (f101_1 F) (f102_1 F) (f68_1_l7 F)  d K)
theorem S68_1_ok (F : Nat) (o : Summ) (ho : SoundFn Try.prog 68 o) : SoundFn Try.prog 68 (S68_1 F o) :=
  soundFn_of (fn := Try.f68) (c := code68) (by kernel_rfl) (tab_cons (S101_1_ok F _ (noS_sound enter101)) (tab_cons (S102_1_ok F _ (noS_sound enter102)) tab_nil)) (by kernel_rfl) (by kernel_rfl) ho (by rw [loops68]; exact (loopsOK_cons (by kernel_rfl) (L68_1_7 F) loopsOK_nil)) (by rw [scopes68]; exact scopesOK_nil) (E68_1 F)
end Go.Proofs.Ytillbabmlfjegaa.X
end

section
namespace Go.Proofs.Ytillbabmlfjegaa.X
open Go Go.Proofs.Ytillbabmlfjegaa.Ev Go.Proofs
set_option linter.unusedVariables false
/-! digest.Node -/
noncomputable def f69_1 {β : Type} (F : Nat) (a1 : List ByteArray) (K0 : ByteArray → Option β) : Option β := f97_1 F 1 a1 (fun x1 => K0 x1) 
def sh69_1 : Sh := ⟨[.lf (.full 0)], [some ⟨none, [.seq .str 0]⟩]⟩
noncomputable def S69_1 (F : Nat) (o : Summ) : Summ := mkS sh69_1 (fun d K => f69_1 F d.2.1.2.1 (fun (y0 : ByteArray) => K [.lf (.str y0)] [some ⟨d.2.1.1, [.seq .str 0 d.2.1.2.1]⟩])) o
noncomputable def code69 : Code := bodyOf Try.f69
theorem scopes69 : scopesOf code69 = [] := by kernel_rfl
theorem loops69 : loopsOf code69 = [] := by kernel_rfl
theorem enter69 : ∀ args w, (callFunc 69 args).run Try.prog w = .ok (.enter 69 args) w := enter_of (fn := Try.f69) (by kernel_rfl) (by kernel_rfl) (by kernel_rfl)
noncomputable def T69_1 (F : Nat) : FuncId → Option Summ := tab [(97, (S97_1 F noS))]
noncomputable def LT69_1 (F : Nat) : Nat → Option LoopS := ltab []
theorem E69_1g (F : Nat) (c97_1 : Int → List ByteArray → (ByteArray → Option Res) → Option Res)   (d : sh69_1.den) (K : KF) : evBody Try.prog (tab [(97, (mkS sh97_1 (fun d K => c97_1 d.1.1 d.2.1.2.1 (fun (y0 : ByteArray) => K [.lf (.str y0)] [some ⟨d.2.1.1, [.seq .str 0 d.2.1.2.1]⟩])) noS))]) 5 1 (ltab []) code69 Try.f69.results.toList (encT sh69_1.vs d.1) (encH sh69_1.h d.2) K = (fun (a1 : List ByteArray) (K0 : (ByteArray → Option Res)) => c97_1 1 a1 (fun x1 => K0 x1) ) d.2.1.2.1 (fun (y0 : ByteArray) => K [.lf (.str y0)] [some ⟨d.2.1.1, [.seq .str 0 d.2.1.2.1]⟩]) := by kernel_rfl
theorem E69_1 (F : Nat) (d : sh69_1.den) (K : KF) : evBody Try.prog (T69_1 F) 5 1 (LT69_1 F) code69 Try.f69.results.toList (encT sh69_1.vs d.1) (encH sh69_1.h d.2) K = f69_1 F d.2.1.2.1 (fun (y0 : ByteArray) => K [.lf (.str y0)] [some ⟨d.2.1.1, [.seq .str 0 d.2.1.2.1]⟩]) := Eq.mp (by kernel_rfl) (E69_1g F (f97_1 F)   d K)
theorem S69_1_ok (F : Nat) (o : Summ) (ho : SoundFn Try.prog 69 o) : SoundFn Try.prog 69 (S69_1 F o) :=
  soundFn_of (fn := Try.f69) (c := code69) (by kernel_rfl) (tab_cons (S97_1_ok F _ (noS_sound enter97)) tab_nil) (by kernel_rfl) (by kernel_rfl) ho (by rw [loops69]; exact loopsOK_nil) (by rw [scopes69]; exact scopesOK_nil) (E69_1 F)
end Go.Proofs.Ytillbabmlfjegaa.X
end

section
namespace Go.Proofs.Ytillbabmlfjegaa.X
open Go Go.Proofs.Ytillbabmlfjegaa.Ev Go.Proofs
set_option linter.unusedVariables false
/-! tree.Tree).above -/
noncomputable def f58_1_l3 {β : Type} (F : Nat) (v2 : Int) (v4 : Int) (v5 : Int) (v6 : Int) (v7 : Int) (v8 : List ByteArray) (v10 : List Int) (K0 : List ByteArray → Option β) : Nat → Int → List ByteArray → Option β
  | 0, _, _ => none
  | k + 1, v3, v9 => cond (decide (v3 < v2)) (cond (decide ((0 : Int) ≤ v3 ∧ v3 < ((v10.length : Nat) : Int))) (cond (decide (0 + v3.toNat < v10.length)) (cond (decide ((0 : Int) ≤ v10.getD (0 + v3.toNat) 0 ∧ v10.getD (0 + v3.toNat) 0 < ((v8.length : Nat) : Int))) (cond (decide (0 + ((v10.getD (0 + v3.toNat) 0).toNat) < v8.length)) (cond (decide ((v9.length + 1) * 16 ≤ 70368744177664)) (f58_1_l3 F v2 v4 v5 v6 v7 v8 v10 K0 k (IntKind.i64.wrap (v3 + 1)) (v9 ++ [v8.getD (0 + ((v10.getD (0 + v3.toNat) 0).toNat)) ByteArray.empty])) none) none) none) none) none) (K0 v9)
noncomputable def f58_1 {β : Type} (F : Nat) (a1 : Int) (a2 : Int) (a3 : Int) (a4 : Int) (a5 : Int) (a6 : List ByteArray) (K0 : ByteArray → Option β) : Option β := f68_1 F a2 a3 a4 a5 a1 (fun x1 => f58_1_l3 F ((x1.length : Nat) : Int) a2 a3 a4 a5 a6 x1 (fun x11 => f69_1 F x11 (fun x12 => K0 x12) ) F 0 []) 
def sh58_1 : Sh := ⟨[.lf (.ptr 0 0), .lf (.int .i64)], [some ⟨none, [.int .i64, .int .i64, .int .i64, .int .i64, .full 1]⟩, some ⟨none, [.seq .str 0]⟩]⟩
noncomputable def S58_1 (F : Nat) (o : Summ) : Summ := mkS sh58_1 (fun d K => f58_1 F d.1.2.1 d.2.1.2.1 d.2.1.2.2.1 d.2.1.2.2.2.1 d.2.1.2.2.2.2.1 d.2.2.1.2.1 (fun (y0 : ByteArray) => K [.lf (.str y0)] [some ⟨d.2.1.1, [.int .i64 d.2.1.2.1, .int .i64 d.2.1.2.2.1, .int .i64 d.2.1.2.2.2.1, .int .i64 d.2.1.2.2.2.2.1, .full 1]⟩, some ⟨d.2.2.1.1, [.seq .str 0 d.2.2.1.2.1]⟩])) o
noncomputable def code58 : Code := bodyOf Try.f58
noncomputable def b58_0 : Code := cB (cB (cR (cL (cR (cR (code58))))))
theorem scopes58 : scopesOf code58 = [] := by kernel_rfl
theorem loops58 : loopsOf code58 = [b58_0] := by kernel_rfl
theorem enter58 : ∀ args w, (callFunc 58 args).run Try.prog w = .ok (.enter 58 args) w := enter_of (fn := Try.f58) (by kernel_rfl) (by kernel_rfl) (by kernel_rfl)
noncomputable def T58_1 (F : Nat) : FuncId → Option Summ := tab [(68, (S68_1 F noS)), (69, (S69_1 F noS))]
def sh58_1_l3 : Sh := ⟨[.lf (.ptr 0 0), .lf (.full 2), .lf (.full 3), .lf (.int .i64), .lf (.int .i64)], [some ⟨none, [.int .i64, .int .i64, .int .i64, .int .i64, .full 1]⟩, some ⟨none, [.seq .str 0]⟩, some ⟨some false, [.seq .str 0]⟩, some ⟨some false, [.seq (.int .i64) 0]⟩]⟩
noncomputable def G58_1_3 (F k : Nat) : LoopS := mkG sh58_1_l3 [0, 5, 13, 14, 15] (outT [(.exit 0, [5])]) (fun d K => f58_1_l3 F d.1.2.2.2.1 d.2.1.2.1 d.2.1.2.2.1 d.2.1.2.2.2.1 d.2.1.2.2.2.2.1 d.2.2.1.2.1 d.2.2.2.2.1.2.1 (fun (y5 : List ByteArray) => K (.exit 0) [.tv (.lf (.full 2))] [some ⟨d.2.1.1, [.int .i64 d.2.1.2.1, .int .i64 d.2.1.2.2.1, .int .i64 d.2.1.2.2.2.1, .int .i64 d.2.1.2.2.2.2.1, .full 1]⟩, some ⟨d.2.2.1.1, [.seq .str 0 d.2.2.1.2.1]⟩, some ⟨false, [.seq .str 0 y5]⟩, some ⟨false, [.seq (.int .i64) 0 d.2.2.2.2.1.2.1]⟩]) k d.1.2.2.2.2.1 d.2.2.2.1.2.1)
noncomputable def LT58_1 (F : Nat) : Nat → Option LoopS := ltab [(3, G58_1_3 F F)]
theorem L58_1_3g (F k : Nat) (c68_1 : Int → Int → Int → Int → Int → (List Int → Option Res) → Option Res) (c69_1 : List ByteArray → (ByteArray → Option Res) → Option Res)  (l3 : Int → Int → Int → Int → Int → List ByteArray → List Int → (List ByteArray → Option Res) → Nat → Int → List ByteArray → Option Res) (X3 : LoopS) (d : sh58_1_l3.den) (K : KL) : (fun (v2 : Int) (v4 : Int) (v5 : Int) (v6 : Int) (v7 : Int) (v8 : List ByteArray) (v10 : List Int) (K0 : (List ByteArray → Option Res)) (k : Nat) (v3 : Int) (v9 : List ByteArray) => cond (decide (v3 < v2)) (cond (decide ((0 : Int) ≤ v3 ∧ v3 < ((v10.length : Nat) : Int))) (cond (decide (0 + v3.toNat < v10.length)) (cond (decide ((0 : Int) ≤ v10.getD (0 + v3.toNat) 0 ∧ v10.getD (0 + v3.toNat) 0 < ((v8.length : Nat) : Int))) (cond (decide (0 + ((v10.getD (0 + v3.toNat) 0).toNat) < v8.length)) (cond (decide ((v9.length + 1) * 16 ≤ 70368744177664)) (l3 v2 v4 v5 v6 v7 v8 v10 K0 k (IntKind.i64.wrap (v3 + 1)) (v9 ++ [v8.getD (0 + ((v10.getD (0 + v3.toNat) 0).toNat)) ByteArray.empty])) none) none) none) none) none) (K0 v9)) d.1.2.2.2.1 d.2.1.2.1 d.2.1.2.2.1 d.2.1.2.2.2.1 d.2.1.2.2.2.2.1 d.2.2.1.2.1 d.2.2.2.2.1.2.1 (fun (y5 : List ByteArray) => K (.exit 0) [.tv (.lf (.full 2))] [some ⟨d.2.1.1, [.int .i64 d.2.1.2.1, .int .i64 d.2.1.2.2.1, .int .i64 d.2.1.2.2.2.1, .int .i64 d.2.1.2.2.2.2.1, .full 1]⟩, some ⟨d.2.2.1.1, [.seq .str 0 d.2.2.1.2.1]⟩, some ⟨false, [.seq .str 0 y5]⟩, some ⟨false, [.seq (.int .i64) 0 d.2.2.2.2.1.2.1]⟩]) k d.1.2.2.2.2.1 d.2.2.2.1.2.1 = roundOf Try.prog (tab [(68, (mkS sh68_1 (fun d K => c68_1 d.1.1.1 d.1.1.2.1 d.1.1.2.2.1 d.1.1.2.2.2.1 d.1.2.1 (fun (y0 : List Int) => K [.lf (.full 0)] [some ⟨false, [.seq (.int .i64) 0 y0]⟩])) noS)), (69, (mkS sh69_1 (fun d K => c69_1 d.2.1.2.1 (fun (y0 : ByteArray) => K [.lf (.str y0)] [some ⟨d.2.1.1, [.seq .str 0 d.2.1.2.1]⟩])) noS))]) 32 2 (ltab [(3, X3)]) (mkG sh58_1_l3 [0, 5, 13, 14, 15] (outT [(.exit 0, [5])]) (fun d K => l3 d.1.2.2.2.1 d.2.1.2.1 d.2.1.2.2.1 d.2.1.2.2.2.1 d.2.1.2.2.2.2.1 d.2.2.1.2.1 d.2.2.2.2.1.2.1 (fun (y5 : List ByteArray) => K (.exit 0) [.tv (.lf (.full 2))] [some ⟨d.2.1.1, [.int .i64 d.2.1.2.1, .int .i64 d.2.1.2.2.1, .int .i64 d.2.1.2.2.2.1, .int .i64 d.2.1.2.2.2.2.1, .full 1]⟩, some ⟨d.2.2.1.1, [.seq .str 0 d.2.2.1.2.1]⟩, some ⟨false, [.seq .str 0 y5]⟩, some ⟨false, [.seq (.int .i64) 0 d.2.2.2.2.1.2.1]⟩]) k d.1.2.2.2.2.1 d.2.2.2.1.2.1)) b58_0 (encT sh58_1_l3.vs d.1) (encH sh58_1_l3.h d.2) K := by kernel_rfl
theorem L58_1_3 (F : Nat) : LoopOK Try.prog (T58_1 F) 32 2 (LT58_1 F) (G58_1_3 F F) b58_0 :=
  loopOK_of (s := sh58_1_l3) (live := [0, 5, 13, 14, 15]) (out := (outT [(.exit 0, [5])])) (fun k d K => f58_1_l3 F d.1.2.2.2.1 d.2.1.2.1 d.2.1.2.2.1 d.2.1.2.2.2.1 d.2.1.2.2.2.2.1 d.2.2.1.2.1 d.2.2.2.2.1.2.1 (fun (y5 : List ByteArray) => K (.exit 0) [.tv (.lf (.full 2))] [some ⟨d.2.1.1, [.int .i64 d.2.1.2.1, .int .i64 d.2.1.2.2.1, .int .i64 d.2.1.2.2.2.1, .int .i64 d.2.1.2.2.2.2.1, .full 1]⟩, some ⟨d.2.2.1.1, [.seq .str 0 d.2.2.1.2.1]⟩, some ⟨false, [.seq .str 0 y5]⟩, some ⟨false, [.seq (.int .i64) 0 d.2.2.2.2.1.2.1]⟩]) k d.1.2.2.2.2.1 d.2.2.2.1.2.1) F (fun d K => by kernel_rfl)  (fun k d K => Eq.mp (by kernel_rfl) (L58_1_3g F k (f68_1 F) (f69_1 F)  (f58_1_l3 F) (G58_1_3 F F) d K))
theorem E58_1g (F : Nat) (c68_1 : Int → Int → Int → Int → Int → (List Int → Option Res) → Option Res) (c69_1 : List ByteArray → (ByteArray → Option Res) → Option Res) (l3 : Int → Int → Int → Int → Int → List ByteArray → List Int → (List ByteArray → Option Res) → Nat → Int → List ByteArray → Option Res)  (d : sh58_1.den) (K : KF) : evBody Try.prog (tab [(68, (mkS sh68_1 (fun d K => c68_1 d.1.1.1 d.1.1.2.1 d.1.1.2.2.1 d.1.1.2.2.2.1 d.1.2.1 (fun (y0 : List Int) => K [.lf (.full 0)] [some ⟨false, [.seq (.int .i64) 0 y0]⟩])) noS)), (69, (mkS sh69_1 (fun d K => c69_1 d.2.1.2.1 (fun (y0 : ByteArray) => K [.lf (.str y0)] [some ⟨d.2.1.1, [.seq .str 0 d.2.1.2.1]⟩])) noS))]) 32 2 (ltab [(3, mkG sh58_1_l3 [0, 5, 13, 14, 15] (outT [(.exit 0, [5])]) (fun d K => l3 d.1.2.2.2.1 d.2.1.2.1 d.2.1.2.2.1 d.2.1.2.2.2.1 d.2.1.2.2.2.2.1 d.2.2.1.2.1 d.2.2.2.2.1.2.1 (fun (y5 : List ByteArray) => K (.exit 0) [.tv (.lf (.full 2))] [some ⟨d.2.1.1, [.int .i64 d.2.1.2.1, .int .i64 d.2.1.2.2.1, .int .i64 d.2.1.2.2.2.1, .int .i64 d.2.1.2.2.2.2.1, .full 1]⟩, some ⟨d.2.2.1.1, [.seq .str 0 d.2.2.1.2.1]⟩, some ⟨false, [.seq .str 0 y5]⟩, some ⟨false, [.seq (.int .i64) 0 d.2.2.2.2.1.2.1]⟩]) F d.1.2.2.2.2.1 d.2.2.2.1.2.1))]) code58 Try.f58.results.toList (encT sh58_1.vs d.1) (encH sh58_1.h d.2) K = (fun (a1 : Int) (a2 : Int) (a3 : Int) (a4 : Int) (a5 : Int) (a6 : List ByteArray) (K0 : (ByteArray → Option Res)) => c68_1 a2 a3 a4 a5 a1 (fun x1 => l3 ((x1.length : Nat) : Int) a2 a3 a4 a5 a6 x1 (fun x11 => c69_1 x11 (fun x12 => K0 x12) ) F 0 []) ) d.1.2.1 d.2.1.2.1 d.2.1.2.2.1 d.2.1.2.2.2.1 d.2.1.2.2.2.2.1 d.2.2.1.2.1 (fun (y0 : ByteArray) => K [.lf (.str y0)] [some ⟨d.2.1.1, [.int .i64 d.2.1.2.1, .int .i64 d.2.1.2.2.1, .int .i64 d.2.1.2.2.2.1, .int .i64 d.2.1.2.2.2.2.1, .full 1]⟩, some ⟨d.2.2.1.1, [.seq .str 0 d.2.2.1.2.1]⟩]) := by kernel_rfl
theorem E58_1 (F : Nat) (d : sh58_1.den) (K : KF) : evBody Try.prog (T58_1 F) 32 2 (LT58_1 F) code58 Try.f58.results.toList (encT sh58_1.vs d.1) (encH sh58_1.h d.2) K = f58_1 F d.1.2.1 d.2.1.2.1 d.2.1.2.2.1 d.2.1.2.2.2.1 d.2.1.2.2.2.2.1 d.2.2.1.2.1 (fun (y0 : ByteArray) => K [.lf (.str y0)] [some ⟨d.2.1.1, [.int .i64 d.2.1.2.1, .int .i64 d.2.1.2.2.1, .int .i64 d.2.1.2.2.2.1, .int .i64 d.2.1.2.2.2.2.1, .full 1]⟩, some ⟨d.2.2.1.1, [.seq .str 0 d.2.2.1.2.1]⟩]) := Eq.mp (by kernel_rfl) (E58_1g F (f68_1 F) (f69_1 F) (f58_1_l3 F)  d K)
theorem S58_1_ok (F : Nat) (o : Summ) (ho : SoundFn Try.prog 58 o) : SoundFn Try.prog 58 (S58_1 F o) :=
  soundFn_of (fn := Try.f58) (c := code58) (by kernel_rfl) (tab_cons (S68_1_ok F _ (noS_sound enter68)) (tab_cons (S69_1_ok F _ (noS_sound enter69)) tab_nil)) (by kernel_rfl) (by kernel_rfl) ho (by rw [loops58]; exact (loopsOK_cons (by kernel_rfl) (L58_1_3 F) loopsOK_nil)) (by rw [scopes58]; exact scopesOK_nil) (E58_1 F)
end Go.Proofs.Ytillbabmlfjegaa.X
end

section
namespace Go.Proofs.Ytillbabmlfjegaa.X
open Go Go.Proofs.Ytillbabmlfjegaa.Ev Go.Proofs
set_option linter.unusedVariables false
/-! tree.New -/
noncomputable def f10_1_l9 {β : Type} (F : Nat) (v3 : Int) (v5 : List ByteArray) (v6 : Int) (v7 : Int) (v8 : Int) (v9 : Int) (v10 : Int) (v11 : Int) (v12 : Int) (v13 : Int) (K0 : List ByteArray → Option β) : Nat → Int → List ByteArray → Option β
  | 0, _, _ => none
  | k + 1, v4, v14 => cond (decide (v4 < v3)) (cond (decide ((0 : Int) ≤ v4 ∧ v4 < ((v5.length : Nat) : Int))) (cond (decide (0 + v4.toNat < v5.length)) (f56_1 F (v5.getD (0 + v4.toNat) ByteArray.empty) (fun x15 => cond (decide ((v14.length + 1) * 16 ≤ 70368744177664)) (f10_1_l9 F v3 v5 v6 v7 v8 v9 v10 v11 v12 v13 K0 k (IntKind.i64.wrap (v4 + 1)) (v14 ++ [x15])) none) ) none) none) (K0 v14)
noncomputable def f10_1_l14 {β : Type} (F : Nat) (v18 : List ByteArray) (v19 : Int) (v20 : Int) (v21 : Int) (v22 : Int) (v23 : Int) (v24 : Int) (v25 : Int) (v26 : Int) (K0 : List ByteArray → Option β) : Nat → Int → List ByteArray → Option β
  | 0, _, _ => none
  | k + 1, v17, v27 => f57_1 F v19 v20 v21 v22 (fun x28 => cond (decide (v17 ≤ x28)) (f58_1 F v17 v23 v24 v25 v26 v27 (fun x29 => cond (decide ((v27.length + 1) * 16 ≤ 70368744177664)) (f10_1_l14 F v18 v19 v20 v21 v22 v23 v24 v25 v26 K0 k (IntKind.i64.wrap (v17 + 1)) (v27 ++ [x29])) none) ) (K0 v27)) 
noncomputable def f10_1 {β : Type} (F : Nat) (a1 : Int) (a2 : Int) (a3 : Int) (a4 : Int) (a5 : List ByteArray) (K0 : Int → Option β) (K1 : List ByteArray → Option β) : Option β := f52_1 F a1 a2 a3 a4 (fun x1 => cond (!x1) (K0 12) (cond (((a5.length : Nat) : Int) != a1) (K0 8) (f53_5672 F a5 (fun x2 => cond x2 (K0 4) (f10_1_l9 F ((a5.length : Nat) : Int) a5 a1 a2 a3 a4 a1 a2 a3 a4 (fun x16 => f10_1_l14 F a5 a1 a2 a3 a4 a1 a2 a3 a4 (fun x30 => K1 x30) F a1 x16) F 0 [])) ))) 
def sh10_1 : Sh := ⟨[.agg [.int .i64, .int .i64, .int .i64, .int .i64], .lf (.full 0)], [some ⟨none, [.seq .str 0]⟩]⟩
noncomputable def S10_1 (F : Nat) (o : Summ) : Summ := mkS sh10_1 (fun d K => f10_1 F d.1.1.1 d.1.1.2.1 d.1.1.2.2.1 d.1.1.2.2.2.1 d.2.1.2.1 (fun (y0 : Int) => K [.lf (.nilp), .lf (.int .i64 y0)] [some ⟨d.2.1.1, [.seq .str 0 d.2.1.2.1]⟩]) (fun (y6 : List ByteArray) => K [.lf (.ptr 1 0), .lf (.int .i64 0)] [some ⟨d.2.1.1, [.seq .str 0 d.2.1.2.1]⟩, some ⟨false, [.int .i64 d.1.1.1, .int .i64 d.1.1.2.1, .int .i64 d.1.1.2.2.1, .int .i64 d.1.1.2.2.2.1, .full 2]⟩, some ⟨false, [.seq .str 0 y6]⟩])) o
noncomputable def code10 : Code := bodyOf Try.f10
noncomputable def b10_0 : Code := cB (cB (cR (cL (cR (cR (cR (code10)))))))
noncomputable def b10_1 : Code := cB (cB (cR (cL (cR (cR (cR (cR (code10))))))))
theorem scopes10 : scopesOf code10 = [] := by kernel_rfl
theorem loops10 : loopsOf code10 = [b10_0, b10_1] := by kernel_rfl
theorem enter10 : ∀ args w, (callFunc 10 args).run Try.prog w = .ok (.enter 10 args) w := enter_of (fn := Try.f10) (by kernel_rfl) (by kernel_rfl) (by kernel_rfl)
noncomputable def T10_1 (F : Nat) : FuncId → Option Summ := tab [(52, (S52_1 F noS)), (53, (S53_5672 F noS)), (56, (S56_1 F noS)), (57, (S57_1 F noS)), (58, (S58_1 F noS))]
def sh10_1_l9 : Sh := ⟨[.lf (.ptr 1 0), .lf (.ptr 2 0), .lf (.full 0), .lf (.int .i64), .lf (.int .i64)], [some ⟨none, [.seq .str 0]⟩, some ⟨some false, [.int .i64, .int .i64, .int .i64, .int .i64]⟩, some ⟨some false, [.int .i64, .int .i64, .int .i64, .int .i64, .full 3]⟩, some ⟨some false, [.seq .str 0]⟩]⟩
noncomputable def G10_1_9 (F k : Nat) : LoopS := mkG sh10_1_l9 [2, 6, 26, 27, 28] (outT [(.exit 1, [2, 6])]) (fun d K => f10_1_l9 F d.1.2.2.2.1 d.2.1.2.1 d.2.2.1.2.1 d.2.2.1.2.2.1 d.2.2.1.2.2.2.1 d.2.2.1.2.2.2.2.1 d.2.2.2.1.2.1 d.2.2.2.1.2.2.1 d.2.2.2.1.2.2.2.1 d.2.2.2.1.2.2.2.2.1 (fun (y9 : List ByteArray) => K (.exit 1) [.tv (.lf (.ptr 1 0)), .tv (.lf (.ptr 2 0))] [some ⟨d.2.1.1, [.seq .str 0 d.2.1.2.1]⟩, some ⟨false, [.int .i64 d.2.2.1.2.1, .int .i64 d.2.2.1.2.2.1, .int .i64 d.2.2.1.2.2.2.1, .int .i64 d.2.2.1.2.2.2.2.1]⟩, some ⟨false, [.int .i64 d.2.2.2.1.2.1, .int .i64 d.2.2.2.1.2.2.1, .int .i64 d.2.2.2.1.2.2.2.1, .int .i64 d.2.2.2.1.2.2.2.2.1, .full 3]⟩, some ⟨false, [.seq .str 0 y9]⟩]) k d.1.2.2.2.2.1 d.2.2.2.2.1.2.1)
def sh10_1_l14 : Sh := ⟨[.lf (.ptr 1 0), .lf (.ptr 2 0), .lf (.int .i64)], [some ⟨none, [.seq .str 0]⟩, some ⟨some false, [.int .i64, .int .i64, .int .i64, .int .i64]⟩, some ⟨some false, [.int .i64, .int .i64, .int .i64, .int .i64, .full 3]⟩, some ⟨some false, [.seq .str 0]⟩]⟩
noncomputable def G10_1_14 (F k : Nat) : LoopS := mkG sh10_1_l14 [2, 6, 9] (outT [(.exit 3, [6])]) (fun d K => f10_1_l14 F d.2.1.2.1 d.2.2.1.2.1 d.2.2.1.2.2.1 d.2.2.1.2.2.2.1 d.2.2.1.2.2.2.2.1 d.2.2.2.1.2.1 d.2.2.2.1.2.2.1 d.2.2.2.1.2.2.2.1 d.2.2.2.1.2.2.2.2.1 (fun (y9 : List ByteArray) => K (.exit 3) [.tv (.lf (.ptr 2 0))] [some ⟨d.2.1.1, [.seq .str 0 d.2.1.2.1]⟩, some ⟨false, [.int .i64 d.2.2.1.2.1, .int .i64 d.2.2.1.2.2.1, .int .i64 d.2.2.1.2.2.2.1, .int .i64 d.2.2.1.2.2.2.2.1]⟩, some ⟨false, [.int .i64 d.2.2.2.1.2.1, .int .i64 d.2.2.2.1.2.2.1, .int .i64 d.2.2.2.1.2.2.2.1, .int .i64 d.2.2.2.1.2.2.2.2.1, .full 3]⟩, some ⟨false, [.seq .str 0 y9]⟩]) k d.1.2.2.1 d.2.2.2.2.1.2.1)
noncomputable def LT10_1 (F : Nat) : Nat → Option LoopS := ltab [(9, G10_1_9 F F), (14, G10_1_14 F F)]
theorem L10_1_9g (F k : Nat) (c52_1 : Int → Int → Int → Int → (Bool → Option Res) → Option Res) (c53_5672 : List ByteArray → (Bool → Option Res) → Option Res) (c56_1 : ByteArray → (ByteArray → Option Res) → Option Res) (c57_1 : Int → Int → Int → Int → (Int → Option Res) → Option Res) (c58_1 : Int → Int → Int → Int → Int → List ByteArray → (ByteArray → Option Res) → Option Res)  (l9 : Int → List ByteArray → Int → Int → Int → Int → Int → Int → Int → Int → (List ByteArray → Option Res) → Nat → Int → List ByteArray → Option Res) (X9 : LoopS) (X14 : LoopS) (d : sh10_1_l9.den) (K : KL) : (fun (v3 : Int) (v5 : List ByteArray) (v6 : Int) (v7 : Int) (v8 : Int) (v9 : Int) (v10 : Int) (v11 : Int) (v12 : Int) (v13 : Int) (K0 : (List ByteArray → Option Res)) (k : Nat) (v4 : Int) (v14 : List ByteArray) => cond (decide (v4 < v3)) (cond (decide ((0 : Int) ≤ v4 ∧ v4 < ((v5.length : Nat) : Int))) (cond (decide (0 + v4.toNat < v5.length)) (c56_1 (v5.getD (0 + v4.toNat) ByteArray.empty) (fun x15 => cond (decide ((v14.length + 1) * 16 ≤ 70368744177664)) (l9 v3 v5 v6 v7 v8 v9 v10 v11 v12 v13 K0 k (IntKind.i64.wrap (v4 + 1)) (v14 ++ [x15])) none) ) none) none) (K0 v14)) d.1.2.2.2.1 d.2.1.2.1 d.2.2.1.2.1 d.2.2.1.2.2.1 d.2.2.1.2.2.2.1 d.2.2.1.2.2.2.2.1 d.2.2.2.1.2.1 d.2.2.2.1.2.2.1 d.2.2.2.1.2.2.2.1 d.2.2.2.1.2.2.2.2.1 (fun (y9 : List ByteArray) => K (.exit 1) [.tv (.lf (.ptr 1 0)), .tv (.lf (.ptr 2 0))] [some ⟨d.2.1.1, [.seq .str 0 d.2.1.2.1]⟩, some ⟨false, [.int .i64 d.2.2.1.2.1, .int .i64 d.2.2.1.2.2.1, .int .i64 d.2.2.1.2.2.2.1, .int .i64 d.2.2.1.2.2.2.2.1]⟩, some ⟨false, [.int .i64 d.2.2.2.1.2.1, .int .i64 d.2.2.2.1.2.2.1, .int .i64 d.2.2.2.1.2.2.2.1, .int .i64 d.2.2.2.1.2.2.2.2.1, .full 3]⟩, some ⟨false, [.seq .str 0 y9]⟩]) k d.1.2.2.2.2.1 d.2.2.2.2.1.2.1 = roundOf Try.prog (tab [(52, (mkS sh52_1 (fun d K => c52_1 d.1.1.1 d.1.1.2.1 d.1.1.2.2.1 d.1.1.2.2.2.1 (fun (y0 : Bool) => K [.lf (.bool y0)] [])) noS)), (53, (mkS sh53_5672 (fun d K => c53_5672 d.2.1.2.1 (fun (y0 : Bool) => K [.lf (.bool y0)] [some ⟨d.2.1.1, [.seq .str 0 d.2.1.2.1]⟩])) noS)), (56, (mkS sh56_1 (fun d K => c56_1 d.1.1 (fun (y0 : ByteArray) => K [.lf (.str y0)] [])) noS)), (57, (mkS sh57_1 (fun d K => c57_1 d.1.1.1 d.1.1.2.1 d.1.1.2.2.1 d.1.1.2.2.2.1 (fun (y0 : Int) => K [.lf (.int .i64 y0)] [])) noS)), (58, (mkS sh58_1 (fun d K => c58_1 d.1.2.1 d.2.1.2.1 d.2.1.2.2.1 d.2.1.2.2.2.1 d.2.1.2.2.2.2.1 d.2.2.1.2.1 (fun (y0 : ByteArray) => K [.lf (.str y0)] [some ⟨d.2.1.1, [.int .i64 d.2.1.2.1, .int .i64 d.2.1.2.2.1, .int .i64 d.2.1.2.2.2.1, .int .i64 d.2.1.2.2.2.2.1, .full 1]⟩, some ⟨d.2.2.1.1, [.seq .str 0 d.2.2.1.2.1]⟩])) noS))]) 65 1 (ltab [(9, X9), (14, X14)]) (mkG sh10_1_l9 [2, 6, 26, 27, 28] (outT [(.exit 1, [2, 6])]) (fun d K => l9 d.1.2.2.2.1 d.2.1.2.1 d.2.2.1.2.1 d.2.2.1.2.2.1 d.2.2.1.2.2.2.1 d.2.2.1.2.2.2.2.1 d.2.2.2.1.2.1 d.2.2.2.1.2.2.1 d.2.2.2.1.2.2.2.1 d.2.2.2.1.2.2.2.2.1 (fun (y9 : List ByteArray) => K (.exit 1) [.tv (.lf (.ptr 1 0)), .tv (.lf (.ptr 2 0))] [some ⟨d.2.1.1, [.seq .str 0 d.2.1.2.1]⟩, some ⟨false, [.int .i64 d.2.2.1.2.1, .int .i64 d.2.2.1.2.2.1, .int .i64 d.2.2.1.2.2.2.1, .int .i64 d.2.2.1.2.2.2.2.1]⟩, some ⟨false, [.int .i64 d.2.2.2.1.2.1, .int .i64 d.2.2.2.1.2.2.1, .int .i64 d.2.2.2.1.2.2.2.1, .int .i64 d.2.2.2.1.2.2.2.2.1, .full 3]⟩, some ⟨false, [.seq .str 0 y9]⟩]) k d.1.2.2.2.2.1 d.2.2.2.2.1.2.1)) b10_0 (encT sh10_1_l9.vs d.1) (encH sh10_1_l9.h d.2) K := by kernel_rfl
theorem L10_1_9 (F : Nat) : LoopOK Try.prog (T10_1 F) 65 1 (LT10_1 F) (G10_1_9 F F) b10_0 :=
  loopOK_of (s := sh10_1_l9) (live := [2, 6, 26, 27, 28]) (out := (outT [(.exit 1, [2, 6])])) (fun k d K => f10_1_l9 F d.1.2.2.2.1 d.2.1.2.1 d.2.2.1.2.1 d.2.2.1.2.2.1 d.2.2.1.2.2.2.1 d.2.2.1.2.2.2.2.1 d.2.2.2.1.2.1 d.2.2.2.1.2.2.1 d.2.2.2.1.2.2.2.1 d.2.2.2.1.2.2.2.2.1 (fun (y9 : List ByteArray) => K (.exit 1) [.tv (.lf (.ptr 1 0)), .tv (.lf (.ptr 2 0))] [some ⟨d.2.1.1, [.seq .str 0 d.2.1.2.1]⟩, some ⟨false, [.int .i64 d.2.2.1.2.1, .int .i64 d.2.2.1.2.2.1, .int .i64 d.2.2.1.2.2.2.1, .int .i64 d.2.2.1.2.2.2.2.1]⟩, some ⟨false, [.int .i64 d.2.2.2.1.2.1, .int .i64 d.2.2.2.1.2.2.1, .int .i64 d.2.2.2.1.2.2.2.1, .int .i64 d.2.2.2.1.2.2.2.2.1, .full 3]⟩, some ⟨false, [.seq .str 0 y9]⟩]) k d.1.2.2.2.2.1 d.2.2.2.2.1.2.1) F (fun d K => by kernel_rfl)  (fun k d K => Eq.mp (by kernel_rfl) (L10_1_9g F k (f52_1 F) (f53_5672 F) (f56_1 F) (f57_1 F) (f58_1 F)  (f10_1_l9 F) (G10_1_9 F F) (G10_1_14 F F) d K))
theorem L10_1_14g (F k : Nat) (c52_1 : Int → Int → Int → Int → (Bool → Option Res) → Option Res) (c53_5672 : List ByteArray → (Bool → Option Res) → Option Res) (c56_1 : ByteArray → (ByteArray → Option Res) → Option Res) (c57_1 : Int → Int → Int → Int → (Int → Option Res) → Option Res) (c58_1 : Int → Int → Int → Int → Int → List ByteArray → (ByteArray → Option Res) → Option Res)  (l14 : List ByteArray → Int → Int → Int → Int → Int → Int → Int → Int → (List ByteArray → Option Res) → Nat → Int → List ByteArray → Option Res) (X9 : LoopS) (X14 : LoopS) (d : sh10_1_l14.den) (K : KL) : (fun (v18 : List ByteArray) (v19 : Int) (v20 : Int) (v21 : Int) (v22 : Int) (v23 : Int) (v24 : Int) (v25 : Int) (v26 : Int) (K0 : (List ByteArray → Option Res)) (k : Nat) (v17 : Int) (v27 : List ByteArray) => c57_1 v19 v20 v21 v22 (fun x28 => cond (decide (v17 ≤ x28)) (c58_1 v17 v23 v24 v25 v26 v27 (fun x29 => cond (decide ((v27.length + 1) * 16 ≤ 70368744177664)) (l14 v18 v19 v20 v21 v22 v23 v24 v25 v26 K0 k (IntKind.i64.wrap (v17 + 1)) (v27 ++ [x29])) none) ) (K0 v27)) ) d.2.1.2.1 d.2.2.1.2.1 d.2.2.1.2.2.1 d.2.2.1.2.2.2.1 d.2.2.1.2.2.2.2.1 d.2.2.2.1.2.1 d.2.2.2.1.2.2.1 d.2.2.2.1.2.2.2.1 d.2.2.2.1.2.2.2.2.1 (fun (y9 : List ByteArray) => K (.exit 3) [.tv (.lf (.ptr 2 0))] [some ⟨d.2.1.1, [.seq .str 0 d.2.1.2.1]⟩, some ⟨false, [.int .i64 d.2.2.1.2.1, .int .i64 d.2.2.1.2.2.1, .int .i64 d.2.2.1.2.2.2.1, .int .i64 d.2.2.1.2.2.2.2.1]⟩, some ⟨false, [.int .i64 d.2.2.2.1.2.1, .int .i64 d.2.2.2.1.2.2.1, .int .i64 d.2.2.2.1.2.2.2.1, .int .i64 d.2.2.2.1.2.2.2.2.1, .full 3]⟩, some ⟨false, [.seq .str 0 y9]⟩]) k d.1.2.2.1 d.2.2.2.2.1.2.1 = roundOf Try.prog (tab [(52, (mkS sh52_1 (fun d K => c52_1 d.1.1.1 d.1.1.2.1 d.1.1.2.2.1 d.1.1.2.2.2.1 (fun (y0 : Bool) => K [.lf (.bool y0)] [])) noS)), (53, (mkS sh53_5672 (fun d K => c53_5672 d.2.1.2.1 (fun (y0 : Bool) => K [.lf (.bool y0)] [some ⟨d.2.1.1, [.seq .str 0 d.2.1.2.1]⟩])) noS)), (56, (mkS sh56_1 (fun d K => c56_1 d.1.1 (fun (y0 : ByteArray) => K [.lf (.str y0)] [])) noS)), (57, (mkS sh57_1 (fun d K => c57_1 d.1.1.1 d.1.1.2.1 d.1.1.2.2.1 d.1.1.2.2.2.1 (fun (y0 : Int) => K [.lf (.int .i64 y0)] [])) noS)), (58, (mkS sh58_1 (fun d K => c58_1 d.1.2.1 d.2.1.2.1 d.2.1.2.2.1 d.2.1.2.2.2.1 d.2.1.2.2.2.2.1 d.2.2.1.2.1 (fun (y0 : ByteArray) => K [.lf (.str y0)] [some ⟨d.2.1.1, [.int .i64 d.2.1.2.1, .int .i64 d.2.1.2.2.1, .int .i64 d.2.1.2.2.2.1, .int .i64 d.2.1.2.2.2.2.1, .full 1]⟩, some ⟨d.2.2.1.1, [.seq .str 0 d.2.2.1.2.1]⟩])) noS))]) 65 1 (ltab [(9, X9), (14, X14)]) (mkG sh10_1_l14 [2, 6, 9] (outT [(.exit 3, [6])]) (fun d K => l14 d.2.1.2.1 d.2.2.1.2.1 d.2.2.1.2.2.1 d.2.2.1.2.2.2.1 d.2.2.1.2.2.2.2.1 d.2.2.2.1.2.1 d.2.2.2.1.2.2.1 d.2.2.2.1.2.2.2.1 d.2.2.2.1.2.2.2.2.1 (fun (y9 : List ByteArray) => K (.exit 3) [.tv (.lf (.ptr 2 0))] [some ⟨d.2.1.1, [.seq .str 0 d.2.1.2.1]⟩, some ⟨false, [.int .i64 d.2.2.1.2.1, .int .i64 d.2.2.1.2.2.1, .int .i64 d.2.2.1.2.2.2.1, .int .i64 d.2.2.1.2.2.2.2.1]⟩, some ⟨false, [.int .i64 d.2.2.2.1.2.1, .int .i64 d.2.2.2.1.2.2.1, .int .i64 d.2.2.2.1.2.2.2.1, .int .i64 d.2.2.2.1.2.2.2.2.1, .full 3]⟩, some ⟨false, [.seq .str 0 y9]⟩]) k d.1.2.2.1 d.2.2.2.2.1.2.1)) b10_1 (encT sh10_1_l14.vs d.1) (encH sh10_1_l14.h d.2) K := by kernel_rfl
theorem L10_1_14 (F : Nat) : LoopOK Try.prog (T10_1 F) 65 1 (LT10_1 F) (G10_1_14 F F) b10_1 :=
  loopOK_of (s := sh10_1_l14) (live := [2, 6, 9]) (out := (outT [(.exit 3, [6])])) (fun k d K => f10_1_l14 F d.2.1.2.1 d.2.2.1.2.1 d.2.2.1.2.2.1 d.2.2.1.2.2.2.1 d.2.2.1.2.2.2.2.1 d.2.2.2.1.2.1 d.2.2.2.1.2.2.1 d.2.2.2.1.2.2.2.1 d.2.2.2.1.2.2.2.2.1 (fun (y9 : List ByteArray) => K (.exit 3) [.tv (.lf (.ptr 2 0))] [some ⟨d.2.1.1, [.seq .str 0 d.2.1.2.1]⟩, some ⟨false, [.int .i64 d.2.2.1.2.1, .int .i64 d.2.2.1.2.2.1, .int .i64 d.2.2.1.2.2.2.1, .int .i64 d.2.2.1.2.2.2.2.1]⟩, some ⟨false, [.int .i64 d.2.2.2.1.2.1, .int .i64 d.2.2.2.1.2.2.1, .int .i64 d.2.2.2.1.2.2.2.1, .int .i64 d.2.2.2.1.2.2.2.2.1, .full 3]⟩, some ⟨false, [.seq .str 0 y9]⟩]) k d.1.2.2.1 d.2.2.2.2.1.2.1) F (fun d K => by kernel_rfl)  (fun k d K => Eq.mp (by kernel_rfl) (L10_1_14g F k (f52_1 F) (f53_5672 F) (f56_1 F) (f57_1 F) (f58_1 F)  (f10_1_l14 F) (G10_1_9 F F) (G10_1_14 F F) d K))
theorem E10_1g (F : Nat) (c52_1 : Int → Int → Int → Int → (Bool → Option Res) → Option Res) (c53_5672 : List ByteArray → (Bool → Option Res) → Option Res) (c56_1 : ByteArray → (ByteArray → Option Res) → Option Res) (c57_1 : Int → Int → Int → Int → (Int → Option Res) → Option Res) (c58_1 : Int → Int → Int → Int → Int → List ByteArray → (ByteArray → Option Res) → Option Res) (l9 : Int → List ByteArray → Int → Int → Int → Int → Int → Int → Int → Int → (List ByteArray → Option Res) → Nat → Int → List ByteArray → Option Res) (l14 : List ByteArray → Int → Int → Int → Int → Int → Int → Int → Int → (List ByteArray → Option Res) → Nat → Int → List ByteArray → Option Res)  (d : sh10_1.den) (K : KF) : evBody Try.prog (tab [(52, (mkS sh52_1 (fun d K => c52_1 d.1.1.1 d.1.1.2.1 d.1.1.2.2.1 d.1.1.2.2.2.1 (fun (y0 : Bool) => K [.lf (.bool y0)] [])) noS)), (53, (mkS sh53_5672 (fun d K => c53_5672 d.2.1.2.1 (fun (y0 : Bool) => K [.lf (.bool y0)] [some ⟨d.2.1.1, [.seq .str 0 d.2.1.2.1]⟩])) noS)), (56, (mkS sh56_1 (fun d K => c56_1 d.1.1 (fun (y0 : ByteArray) => K [.lf (.str y0)] [])) noS)), (57, (mkS sh57_1 (fun d K => c57_1 d.1.1.1 d.1.1.2.1 d.1.1.2.2.1 d.1.1.2.2.2.1 (fun (y0 : Int) => K [.lf (.int .i64 y0)] [])) noS)), (58, (mkS sh58_1 (fun d K => c58_1 d.1.2.1 d.2.1.2.1 d.2.1.2.2.1 d.2.1.2.2.2.1 d.2.1.2.2.2.2.1 d.2.2.1.2.1 (fun (y0 : ByteArray) => K [.lf (.str y0)] [some ⟨d.2.1.1, [.int .i64 d.2.1.2.1, .int .i64 d.2.1.2.2.1, .int .i64 d.2.1.2.2.2.1, .int .i64 d.2.1.2.2.2.2.1, .full 1]⟩, some ⟨d.2.2.1.1, [.seq .str 0 d.2.2.1.2.1]⟩])) noS))]) 65 1 (ltab [(9, mkG sh10_1_l9 [2, 6, 26, 27, 28] (outT [(.exit 1, [2, 6])]) (fun d K => l9 d.1.2.2.2.1 d.2.1.2.1 d.2.2.1.2.1 d.2.2.1.2.2.1 d.2.2.1.2.2.2.1 d.2.2.1.2.2.2.2.1 d.2.2.2.1.2.1 d.2.2.2.1.2.2.1 d.2.2.2.1.2.2.2.1 d.2.2.2.1.2.2.2.2.1 (fun (y9 : List ByteArray) => K (.exit 1) [.tv (.lf (.ptr 1 0)), .tv (.lf (.ptr 2 0))] [some ⟨d.2.1.1, [.seq .str 0 d.2.1.2.1]⟩, some ⟨false, [.int .i64 d.2.2.1.2.1, .int .i64 d.2.2.1.2.2.1, .int .i64 d.2.2.1.2.2.2.1, .int .i64 d.2.2.1.2.2.2.2.1]⟩, some ⟨false, [.int .i64 d.2.2.2.1.2.1, .int .i64 d.2.2.2.1.2.2.1, .int .i64 d.2.2.2.1.2.2.2.1, .int .i64 d.2.2.2.1.2.2.2.2.1, .full 3]⟩, some ⟨false, [.seq .str 0 y9]⟩]) F d.1.2.2.2.2.1 d.2.2.2.2.1.2.1)), (14, mkG sh10_1_l14 [2, 6, 9] (outT [(.exit 3, [6])]) (fun d K => l14 d.2.1.2.1 d.2.2.1.2.1 d.2.2.1.2.2.1 d.2.2.1.2.2.2.1 d.2.2.1.2.2.2.2.1 d.2.2.2.1.2.1 d.2.2.2.1.2.2.1 d.2.2.2.1.2.2.2.1 d.2.2.2.1.2.2.2.2.1 (fun (y9 : List ByteArray) => K (.exit 3) [.tv (.lf (.ptr 2 0))] [some ⟨d.2.1.1, [.seq .str 0 d.2.1.2.1]⟩, some ⟨false, [.int .i64 d.2.2.1.2.1, .int .i64 d.2.2.1.2.2.1, .int .i64 d.2.2.1.2.2.2.1, .int .i64 d.2.2.1.2.2.2.2.1]⟩, some ⟨false, [.int .i64 d.2.2.2.1.2.1, .int .i64 d.2.2.2.1.2.2.1, .int .i64 d.2.2.2.1.2.2.2.1, .int .i64 d.2.2.2.1.2.2.2.2.1, .full 3]⟩, some ⟨false, [.seq .str 0 y9]⟩]) F d.1.2.2.1 d.2.2.2.2.1.2.1))]) code10 Try.f10.results.toList (encT sh10_1.vs d.1) (encH sh10_1.h d.2) K = (fun (a1 : Int) (a2 : Int) (a3 : Int) (a4 : Int) (a5 : List ByteArray) (K0 : (Int → Option Res)) (K1 : (List ByteArray → Option Res)) => c52_1 a1 a2 a3 a4 (fun x1 => cond (!x1) (K0 12) (cond (((a5.length : Nat) : Int) != a1) (K0 8) (c53_5672 a5 (fun x2 => cond x2 (K0 4) (l9 ((a5.length : Nat) : Int) a5 a1 a2 a3 a4 a1 a2 a3 a4 (fun x16 => l14 a5 a1 a2 a3 a4 a1 a2 a3 a4 (fun x30 => K1 x30) F a1 x16) F 0 [])) ))) ) d.1.1.1 d.1.1.2.1 d.1.1.2.2.1 d.1.1.2.2.2.1 d.2.1.2.1 (fun (y0 : Int) => K [.lf (.nilp), .lf (.int .i64 y0)] [some ⟨d.2.1.1, [.seq .str 0 d.2.1.2.1]⟩]) (fun (y6 : List ByteArray) => K [.lf (.ptr 1 0), .lf (.int .i64 0)] [some ⟨d.2.1.1, [.seq .str 0 d.2.1.2.1]⟩, some ⟨false, [.int .i64 d.1.1.1, .int .i64 d.1.1.2.1, .int .i64 d.1.1.2.2.1, .int .i64 d.1.1.2.2.2.1, .full 2]⟩, some ⟨false, [.seq .str 0 y6]⟩]) := by kernel_rfl
theorem E10_1 (F : Nat) (d : sh10_1.den) (K : KF) : evBody Try.prog (T10_1 F) 65 1 (LT10_1 F) code10 Try.f10.results.toList (encT sh10_1.vs d.1) (encH sh10_1.h d.2) K = f10_1 F d.1.1.1 d.1.1.2.1 d.1.1.2.2.1 d.1.1.2.2.2.1 d.2.1.2.1 (fun (y0 : Int) => K [.lf (.nilp), .lf (.int .i64 y0)] [some ⟨d.2.1.1, [.seq .str 0 d.2.1.2.1]⟩]) (fun (y6 : List ByteArray) => K [.lf (.ptr 1 0), .lf (.int .i64 0)] [some ⟨d.2.1.1, [.seq .str 0 d.2.1.2.1]⟩, some ⟨false, [.int .i64 d.1.1.1, .int .i64 d.1.1.2.1, .int .i64 d.1.1.2.2.1, .int .i64 d.1.1.2.2.2.1, .full 2]⟩, some ⟨false, [.seq .str 0 y6]⟩]) := Eq.mp (by kernel_rfl) (E10_1g F (f52_1 F) (f53_5672 F) (f56_1 F) (f57_1 F) (f58_1 F) (f10_1_l9 F) (f10_1_l14 F)  d K)
theorem S10_1_ok (F : Nat) (o : Summ) (ho : SoundFn Try.prog 10 o) : SoundFn Try.prog 10 (S10_1 F o) :=
  soundFn_of (fn := Try.f10) (c := code10) (by kernel_rfl) (tab_cons (S52_1_ok F _ (noS_sound enter52)) (tab_cons (S53_5672_ok F _ (noS_sound enter53)) (tab_cons (S56_1_ok F _ (noS_sound enter56)) (tab_cons (S57_1_ok F _ (noS_sound enter57)) (tab_cons (S58_1_ok F _ (noS_sound enter58)) tab_nil))))) (by kernel_rfl) (by kernel_rfl) ho (by rw [loops10]; exact (loopsOK_cons (by kernel_rfl) (L10_1_9 F) (loopsOK_cons (by kernel_rfl) (L10_1_14 F) loopsOK_nil))) (by rw [scopes10]; exact scopesOK_nil) (E10_1 F)
end Go.Proofs.Ytillbabmlfjegaa.X
end

section
namespace Go.Proofs.Ytillbabmlfjegaa.X
open Go Go.Proofs.Ytillbabmlfjegaa.Ev Go.Proofs
set_option linter.unusedVariables false
/-! pentimentoref07.Right -/
noncomputable def f7_1 {β : Type} (F : Nat) (a1 : Int) (a2 : Int) (a3 : Int) (a4 : Int) (K0 : Bool → Option β) : Option β := cond (decide (a1 ≥ 1)) (cond (decide (a1 ≤ 128)) (cond (decide (a2 ≥ 2)) (cond (decide (a2 ≤ 4)) (cond (decide (a3 ≥ 0)) (cond (decide (a3 ≤ 64)) (cond (decide (a4 ≥ 1)) (K0 (decide (a4 ≤ 320))) (K0 false)) (K0 false)) (K0 false)) (K0 false)) (K0 false)) (K0 false)) (K0 false)
def sh7_1 : Sh := ⟨[.agg [.int .i64, .int .i64, .int .i64, .int .i64]], []⟩
noncomputable def S7_1 (F : Nat) (o : Summ) : Summ := mkS sh7_1 (fun d K => f7_1 F d.1.1.1 d.1.1.2.1 d.1.1.2.2.1 d.1.1.2.2.2.1 (fun (y0 : Bool) => K [.lf (.bool y0)] [])) o
noncomputable def code7 : Code := bodyOf Try.f7
theorem scopes7 : scopesOf code7 = [] := by kernel_rfl
theorem loops7 : loopsOf code7 = [] := by kernel_rfl
theorem enter7 : ∀ args w, (callFunc 7 args).run Try.prog w = .ok (.enter 7 args) w := enter_of (fn := Try.f7) (by kernel_rfl) (by kernel_rfl) (by kernel_rfl)
noncomputable def T7_1 (F : Nat) : FuncId → Option Summ := tab []
noncomputable def LT7_1 (F : Nat) : Nat → Option LoopS := ltab []
theorem E7_1g (F : Nat)    (d : sh7_1.den) (K : KF) : evBody Try.prog (tab []) 41 0 (ltab []) code7 Try.f7.results.toList (encT sh7_1.vs d.1) (encH sh7_1.h d.2) K = (fun (a1 : Int) (a2 : Int) (a3 : Int) (a4 : Int) (K0 : (Bool → Option Res)) => cond (decide (a1 ≥ 1)) (cond (decide (a1 ≤ 128)) (cond (decide (a2 ≥ 2)) (cond (decide (a2 ≤ 4)) (cond (decide (a3 ≥ 0)) (cond (decide (a3 ≤ 64)) (cond (decide (a4 ≥ 1)) (K0 (decide (a4 ≤ 320))) (K0 false)) (K0 false)) (K0 false)) (K0 false)) (K0 false)) (K0 false)) (K0 false)) d.1.1.1 d.1.1.2.1 d.1.1.2.2.1 d.1.1.2.2.2.1 (fun (y0 : Bool) => K [.lf (.bool y0)] []) := by kernel_rfl
theorem E7_1 (F : Nat) (d : sh7_1.den) (K : KF) : evBody Try.prog (T7_1 F) 41 0 (LT7_1 F) code7 Try.f7.results.toList (encT sh7_1.vs d.1) (encH sh7_1.h d.2) K = f7_1 F d.1.1.1 d.1.1.2.1 d.1.1.2.2.1 d.1.1.2.2.2.1 (fun (y0 : Bool) => K [.lf (.bool y0)] []) := Eq.mp (by kernel_rfl) (E7_1g F    d K)
theorem S7_1_ok (F : Nat) (o : Summ) (ho : SoundFn Try.prog 7 o) : SoundFn Try.prog 7 (S7_1 F o) :=
  soundFn_of (fn := Try.f7) (c := code7) (by kernel_rfl) tab_nil (by kernel_rfl) (by kernel_rfl) ho (by rw [loops7]; exact loopsOK_nil) (by rw [scopes7]; exact scopesOK_nil) (E7_1 F)
end Go.Proofs.Ytillbabmlfjegaa.X
end

section
namespace Go.Proofs.Ytillbabmlfjegaa.X
open Go Go.Proofs.Ytillbabmlfjegaa.Ev Go.Proofs
set_option linter.unusedVariables false
/-! pentimentoref07.Levels -/
noncomputable def f66_1_l5 {β : Type} (F : Nat) (v3 : Int) (v4 : Int) (v5 : Int) (v6 : Int) (K0 : List Int → Option β) : Nat → Int → List Int → Option β
  | 0, _, _ => none
  | k + 1, v2, v7 => cond (decide (v2 > 1)) (cond (decide (v4 = 0)) none (cond (decide ((v7.length + 1) * 8 ≤ 70368744177664)) (f66_1_l5 F v3 v4 v5 v6 K0 k (IntKind.i64.wrap ((IntKind.i64.wrap ((IntKind.i64.wrap (v2 + v4)) - 1)).tdiv v4)) (v7 ++ [IntKind.i64.wrap ((IntKind.i64.wrap ((IntKind.i64.wrap (v2 + v4)) - 1)).tdiv v4)])) none)) (K0 v7)
noncomputable def f66_1 {β : Type} (F : Nat) (a1 : Int) (a2 : Int) (a3 : Int) (a4 : Int) (K0 : List Int → Option β) : Option β := f7_1 F a1 a2 a3 a4 (fun x1 => cond (!x1) (K0 []) (f66_1_l5 F a1 a2 a3 a4 (fun x8 => K0 x8) F a1 [a1])) 
def sh66_1 : Sh := ⟨[.agg [.int .i64, .int .i64, .int .i64, .int .i64]], []⟩
noncomputable def S66_1 (F : Nat) (o : Summ) : Summ := mkS sh66_1 (fun d K => f66_1 F d.1.1.1 d.1.1.2.1 d.1.1.2.2.1 d.1.1.2.2.2.1 (fun (y0 : List Int) => K [.lf (.full 0)] [some ⟨false, [.seq (.int .i64) 0 y0]⟩])) o
noncomputable def code66 : Code := bodyOf Try.f66
noncomputable def b66_0 : Code := cB (cB (cR (cL (cR (cR (cR (code66)))))))
theorem scopes66 : scopesOf code66 = [] := by kernel_rfl
theorem loops66 : loopsOf code66 = [b66_0] := by kernel_rfl
theorem enter66 : ∀ args w, (callFunc 66 args).run Try.prog w = .ok (.enter 66 args) w := enter_of (fn := Try.f66) (by kernel_rfl) (by kernel_rfl) (by kernel_rfl)
noncomputable def T66_1 (F : Nat) : FuncId → Option Summ := tab [(7, (S7_1 F noS))]
def sh66_1_l5 : Sh := ⟨[.lf (.ptr 0 0), .lf (.full 1), .lf (.int .i64)], [some ⟨some false, [.int .i64, .int .i64, .int .i64, .int .i64]⟩, some ⟨some false, [.seq (.int .i64) 0]⟩]⟩
noncomputable def G66_1_5 (F k : Nat) : LoopS := mkG sh66_1_l5 [1, 3, 4] (outT [(.exit 0, [3])]) (fun d K => f66_1_l5 F d.2.1.2.1 d.2.1.2.2.1 d.2.1.2.2.2.1 d.2.1.2.2.2.2.1 (fun (y4 : List Int) => K (.exit 0) [.tv (.lf (.full 1))] [some ⟨false, [.int .i64 d.2.1.2.1, .int .i64 d.2.1.2.2.1, .int .i64 d.2.1.2.2.2.1, .int .i64 d.2.1.2.2.2.2.1]⟩, some ⟨false, [.seq (.int .i64) 0 y4]⟩]) k d.1.2.2.1 d.2.2.1.2.1)
noncomputable def LT66_1 (F : Nat) : Nat → Option LoopS := ltab [(5, G66_1_5 F F)]
theorem L66_1_5g (F k : Nat) (c7_1 : Int → Int → Int → Int → (Bool → Option Res) → Option Res)  (l5 : Int → Int → Int → Int → (List Int → Option Res) → Nat → Int → List Int → Option Res) (X5 : LoopS) (d : sh66_1_l5.den) (K : KL) : (fun (v3 : Int) (v4 : Int) (v5 : Int) (v6 : Int) (K0 : (List Int → Option Res)) (k : Nat) (v2 : Int) (v7 : List Int) => cond (decide (v2 > 1)) (cond (decide (v4 = 0)) none (cond (decide ((v7.length + 1) * 8 ≤ 70368744177664)) (l5 v3 v4 v5 v6 K0 k (IntKind.i64.wrap ((IntKind.i64.wrap ((IntKind.i64.wrap (v2 + v4)) - 1)).tdiv v4)) (v7 ++ [IntKind.i64.wrap ((IntKind.i64.wrap ((IntKind.i64.wrap (v2 + v4)) - 1)).tdiv v4)])) none)) (K0 v7)) d.2.1.2.1 d.2.1.2.2.1 d.2.1.2.2.2.1 d.2.1.2.2.2.2.1 (fun (y4 : List Int) => K (.exit 0) [.tv (.lf (.full 1))] [some ⟨false, [.int .i64 d.2.1.2.1, .int .i64 d.2.1.2.2.1, .int .i64 d.2.1.2.2.2.1, .int .i64 d.2.1.2.2.2.2.1]⟩, some ⟨false, [.seq (.int .i64) 0 y4]⟩]) k d.1.2.2.1 d.2.2.1.2.1 = roundOf Try.prog (tab [(7, (mkS sh7_1 (fun d K => c7_1 d.1.1.1 d.1.1.2.1 d.1.1.2.2.1 d.1.1.2.2.2.1 (fun (y0 : Bool) => K [.lf (.bool y0)] [])) noS))]) 28 0 (ltab [(5, X5)]) (mkG sh66_1_l5 [1, 3, 4] (outT [(.exit 0, [3])]) (fun d K => l5 d.2.1.2.1 d.2.1.2.2.1 d.2.1.2.2.2.1 d.2.1.2.2.2.2.1 (fun (y4 : List Int) => K (.exit 0) [.tv (.lf (.full 1))] [some ⟨false, [.int .i64 d.2.1.2.1, .int .i64 d.2.1.2.2.1, .int .i64 d.2.1.2.2.2.1, .int .i64 d.2.1.2.2.2.2.1]⟩, some ⟨false, [.seq (.int .i64) 0 y4]⟩]) k d.1.2.2.1 d.2.2.1.2.1)) b66_0 (encT sh66_1_l5.vs d.1) (encH sh66_1_l5.h d.2) K := by kernel_rfl
theorem L66_1_5 (F : Nat) : LoopOK Try.prog (T66_1 F) 28 0 (LT66_1 F) (G66_1_5 F F) b66_0 :=
  loopOK_of (s := sh66_1_l5) (live := [1, 3, 4]) (out := (outT [(.exit 0, [3])])) (fun k d K => f66_1_l5 F d.2.1.2.1 d.2.1.2.2.1 d.2.1.2.2.2.1 d.2.1.2.2.2.2.1 (fun (y4 : List Int) => K (.exit 0) [.tv (.lf (.full 1))] [some ⟨false, [.int .i64 d.2.1.2.1, .int .i64 d.2.1.2.2.1, .int .i64 d.2.1.2.2.2.1, .int .i64 d.2.1.2.2.2.2.1]⟩, some ⟨false, [.seq (.int .i64) 0 y4]⟩]) k d.1.2.2.1 d.2.2.1.2.1) F (fun d K => by kernel_rfl)  (fun k d K => Eq.mp (by kernel_rfl) (L66_1_5g F k (f7_1 F)  (f66_1_l5 F) (G66_1_5 F F) d K))
theorem E66_1g (F : Nat) (c7_1 : Int → Int → Int → Int → (Bool → Option Res) → Option Res) (l5 : Int → Int → Int → Int → (List Int → Option Res) → Nat → Int → List Int → Option Res)  (d : sh66_1.den) (K : KF) : evBody Try.prog (tab [(7, (mkS sh7_1 (fun d K => c7_1 d.1.1.1 d.1.1.2.1 d.1.1.2.2.1 d.1.1.2.2.2.1 (fun (y0 : Bool) => K [.lf (.bool y0)] [])) noS))]) 28 0 (ltab [(5, mkG sh66_1_l5 [1, 3, 4] (outT [(.exit 0, [3])]) (fun d K => l5 d.2.1.2.1 d.2.1.2.2.1 d.2.1.2.2.2.1 d.2.1.2.2.2.2.1 (fun (y4 : List Int) => K (.exit 0) [.tv (.lf (.full 1))] [some ⟨false, [.int .i64 d.2.1.2.1, .int .i64 d.2.1.2.2.1, .int .i64 d.2.1.2.2.2.1, .int .i64 d.2.1.2.2.2.2.1]⟩, some ⟨false, [.seq (.int .i64) 0 y4]⟩]) F d.1.2.2.1 d.2.2.1.2.1))]) code66 Try.f66.results.toList (encT sh66_1.vs d.1) (encH sh66_1.h d.2) K = (fun (a1 : Int) (a2 : Int) (a3 : Int) (a4 : Int) (K0 : (List Int → Option Res)) => c7_1 a1 a2 a3 a4 (fun x1 => cond (!x1) (K0 []) (l5 a1 a2 a3 a4 (fun x8 => K0 x8) F a1 [a1])) ) d.1.1.1 d.1.1.2.1 d.1.1.2.2.1 d.1.1.2.2.2.1 (fun (y0 : List Int) => K [.lf (.full 0)] [some ⟨false, [.seq (.int .i64) 0 y0]⟩]) := by kernel_rfl
theorem E66_1 (F : Nat) (d : sh66_1.den) (K : KF) : evBody Try.prog (T66_1 F) 28 0 (LT66_1 F) code66 Try.f66.results.toList (encT sh66_1.vs d.1) (encH sh66_1.h d.2) K = f66_1 F d.1.1.1 d.1.1.2.1 d.1.1.2.2.1 d.1.1.2.2.2.1 (fun (y0 : List Int) => K [.lf (.full 0)] [some ⟨false, [.seq (.int .i64) 0 y0]⟩]) := Eq.mp (by kernel_rfl) (E66_1g F (f7_1 F) (f66_1_l5 F)  d K)
theorem S66_1_ok (F : Nat) (o : Summ) (ho : SoundFn Try.prog 66 o) : SoundFn Try.prog 66 (S66_1 F o) :=
  soundFn_of (fn := Try.f66) (c := code66) (by kernel_rfl) (tab_cons (S7_1_ok F _ (noS_sound enter7)) tab_nil) (by kernel_rfl) (by kernel_rfl) ho (by rw [loops66]; exact (loopsOK_cons (by kernel_rfl) (L66_1_5 F) loopsOK_nil)) (by rw [scopes66]; exact scopesOK_nil) (E66_1 F)
end Go.Proofs.Ytillbabmlfjegaa.X
end

section
namespace Go.Proofs.Ytillbabmlfjegaa.X
open Go Go.Proofs.Ytillbabmlfjegaa.Ev Go.Proofs
set_option linter.unusedVariables false
/-! pentimentoref07.Nodes -/
noncomputable def f14_1_l4 {β : Type} (F : Nat) (v4 : List Int) (K0 : Int → Option β) : Nat → Int → Int → Option β
  | 0, _, _ => none
  | k + 1, v2, v3 => cond (decide (v3 < ((v4.length : Nat) : Int))) (cond (decide ((0 : Int) ≤ v3 ∧ v3 < ((v4.length : Nat) : Int))) (cond (decide (0 + v3.toNat < v4.length)) (f14_1_l4 F v4 K0 k (IntKind.i64.wrap (v2 + (v4.getD (0 + v3.toNat) 0))) (IntKind.i64.wrap (v3 + 1))) none) none) (K0 v2)
noncomputable def f14_1 {β : Type} (F : Nat) (a1 : Int) (a2 : Int) (a3 : Int) (a4 : Int) (K0 : Int → Option β) : Option β := f66_1 F a1 a2 a3 a4 (fun x1 => f14_1_l4 F x1 (fun x5 => K0 x5) F 0 0) 
def sh14_1 : Sh := ⟨[.agg [.int .i64, .int .i64, .int .i64, .int .i64]], []⟩
noncomputable def S14_1 (F : Nat) (o : Summ) : Summ := mkS sh14_1 (fun d K => f14_1 F d.1.1.1 d.1.1.2.1 d.1.1.2.2.1 d.1.1.2.2.2.1 (fun (y0 : Int) => K [.lf (.int .i64 y0)] [])) o
noncomputable def code14 : Code := bodyOf Try.f14
noncomputable def b14_0 : Code := cB (cB (cR (cL (cR (cR (cR (code14)))))))
theorem scopes14 : scopesOf code14 = [] := by kernel_rfl
theorem loops14 : loopsOf code14 = [b14_0] := by kernel_rfl
theorem enter14 : ∀ args w, (callFunc 14 args).run Try.prog w = .ok (.enter 14 args) w := enter_of (fn := Try.f14) (by kernel_rfl) (by kernel_rfl) (by kernel_rfl)
noncomputable def T14_1 (F : Nat) : FuncId → Option Summ := tab [(66, (S66_1 F noS))]
def sh14_1_l4 : Sh := ⟨[.lf (.int .i64), .lf (.full 0), .lf (.int .i64)], [some ⟨some false, [.seq (.int .i64) 0]⟩]⟩
noncomputable def G14_1_4 (F k : Nat) : LoopS := mkG sh14_1_l4 [3, 4, 5] (outT [(.exit 0, [3])]) (fun d K => f14_1_l4 F d.2.1.2.1 (fun (y0 : Int) => K (.exit 0) [.tv (.lf (.int .i64 y0))] [some ⟨false, [.seq (.int .i64) 0 d.2.1.2.1]⟩]) k d.1.1 d.1.2.2.1)
noncomputable def LT14_1 (F : Nat) : Nat → Option LoopS := ltab [(4, G14_1_4 F F)]
theorem L14_1_4g (F k : Nat) (c66_1 : Int → Int → Int → Int → (List Int → Option Res) → Option Res)  (l4 : List Int → (Int → Option Res) → Nat → Int → Int → Option Res) (X4 : LoopS) (d : sh14_1_l4.den) (K : KL) : (fun (v4 : List Int) (K0 : (Int → Option Res)) (k : Nat) (v2 : Int) (v3 : Int) => cond (decide (v3 < ((v4.length : Nat) : Int))) (cond (decide ((0 : Int) ≤ v3 ∧ v3 < ((v4.length : Nat) : Int))) (cond (decide (0 + v3.toNat < v4.length)) (l4 v4 K0 k (IntKind.i64.wrap (v2 + (v4.getD (0 + v3.toNat) 0))) (IntKind.i64.wrap (v3 + 1))) none) none) (K0 v2)) d.2.1.2.1 (fun (y0 : Int) => K (.exit 0) [.tv (.lf (.int .i64 y0))] [some ⟨false, [.seq (.int .i64) 0 d.2.1.2.1]⟩]) k d.1.1 d.1.2.2.1 = roundOf Try.prog (tab [(66, (mkS sh66_1 (fun d K => c66_1 d.1.1.1 d.1.1.2.1 d.1.1.2.2.1 d.1.1.2.2.2.1 (fun (y0 : List Int) => K [.lf (.full 0)] [some ⟨false, [.seq (.int .i64) 0 y0]⟩])) noS))]) 21 0 (ltab [(4, X4)]) (mkG sh14_1_l4 [3, 4, 5] (outT [(.exit 0, [3])]) (fun d K => l4 d.2.1.2.1 (fun (y0 : Int) => K (.exit 0) [.tv (.lf (.int .i64 y0))] [some ⟨false, [.seq (.int .i64) 0 d.2.1.2.1]⟩]) k d.1.1 d.1.2.2.1)) b14_0 (encT sh14_1_l4.vs d.1) (encH sh14_1_l4.h d.2) K := by kernel_rfl
theorem L14_1_4 (F : Nat) : LoopOK Try.prog (T14_1 F) 21 0 (LT14_1 F) (G14_1_4 F F) b14_0 :=
  loopOK_of (s := sh14_1_l4) (live := [3, 4, 5]) (out := (outT [(.exit 0, [3])])) (fun k d K => f14_1_l4 F d.2.1.2.1 (fun (y0 : Int) => K (.exit 0) [.tv (.lf (.int .i64 y0))] [some ⟨false, [.seq (.int .i64) 0 d.2.1.2.1]⟩]) k d.1.1 d.1.2.2.1) F (fun d K => by kernel_rfl)  (fun k d K => Eq.mp (by kernel_rfl) (L14_1_4g F k (f66_1 F)  (f14_1_l4 F) (G14_1_4 F F) d K))
theorem E14_1g (F : Nat) (c66_1 : Int → Int → Int → Int → (List Int → Option Res) → Option Res) (l4 : List Int → (Int → Option Res) → Nat → Int → Int → Option Res)  (d : sh14_1.den) (K : KF) : evBody Try.prog (tab [(66, (mkS sh66_1 (fun d K => c66_1 d.1.1.1 d.1.1.2.1 d.1.1.2.2.1 d.1.1.2.2.2.1 (fun (y0 : List Int) => K [.lf (.full 0)] [some ⟨false, [.seq (.int .i64) 0 y0]⟩])) noS))]) 21 0 (ltab [(4, mkG sh14_1_l4 [3, 4, 5] (outT [(.exit 0, [3])]) (fun d K => l4 d.2.1.2.1 (fun (y0 : Int) => K (.exit 0) [.tv (.lf (.int .i64 y0))] [some ⟨false, [.seq (.int .i64) 0 d.2.1.2.1]⟩]) F d.1.1 d.1.2.2.1))]) code14 Try.f14.results.toList (encT sh14_1.vs d.1) (encH sh14_1.h d.2) K = (fun (a1 : Int) (a2 : Int) (a3 : Int) (a4 : Int) (K0 : (Int → Option Res)) => c66_1 a1 a2 a3 a4 (fun x1 => l4 x1 (fun x5 => K0 x5) F 0 0) ) d.1.1.1 d.1.1.2.1 d.1.1.2.2.1 d.1.1.2.2.2.1 (fun (y0 : Int) => K [.lf (.int .i64 y0)] []) := by kernel_rfl
theorem E14_1 (F : Nat) (d : sh14_1.den) (K : KF) : evBody Try.prog (T14_1 F) 21 0 (LT14_1 F) code14 Try.f14.results.toList (encT sh14_1.vs d.1) (encH sh14_1.h d.2) K = f14_1 F d.1.1.1 d.1.1.2.1 d.1.1.2.2.1 d.1.1.2.2.2.1 (fun (y0 : Int) => K [.lf (.int .i64 y0)] []) := Eq.mp (by kernel_rfl) (E14_1g F (f66_1 F) (f14_1_l4 F)  d K)
theorem S14_1_ok (F : Nat) (o : Summ) (ho : SoundFn Try.prog 14 o) : SoundFn Try.prog 14 (S14_1 F o) :=
  soundFn_of (fn := Try.f14) (c := code14) (by kernel_rfl) (tab_cons (S66_1_ok F _ (noS_sound enter66)) tab_nil) (by kernel_rfl) (by kernel_rfl) ho (by rw [loops14]; exact (loopsOK_cons (by kernel_rfl) (L14_1_4 F) loopsOK_nil)) (by rw [scopes14]; exact scopesOK_nil) (E14_1 F)
end Go.Proofs.Ytillbabmlfjegaa.X
end

section
namespace Go.Proofs.Ytillbabmlfjegaa.X
open Go Go.Proofs.Ytillbabmlfjegaa.Ev Go.Proofs
set_option linter.unusedVariables false
/-! pentimentoref05.Right -/
noncomputable def f59_1 {β : Type} (F : Nat) (a1 : ByteArray) (K0 : Bool → Option β) : Option β := K0 ((a1.size : Int) == 64)
def sh59_1 : Sh := ⟨[.lf (.str)], []⟩
noncomputable def S59_1 (F : Nat) (o : Summ) : Summ := mkS sh59_1 (fun d K => f59_1 F d.1.1 (fun (y0 : Bool) => K [.lf (.bool y0)] [])) o
noncomputable def code59 : Code := bodyOf Try.f59
theorem scopes59 : scopesOf code59 = [] := by kernel_rfl
theorem loops59 : loopsOf code59 = [] := by kernel_rfl
theorem enter59 : ∀ args w, (callFunc 59 args).run Try.prog w = .ok (.enter 59 args) w := enter_of (fn := Try.f59) (by kernel_rfl) (by kernel_rfl) (by kernel_rfl)
noncomputable def T59_1 (F : Nat) : FuncId → Option Summ := tab []
noncomputable def LT59_1 (F : Nat) : Nat → Option LoopS := ltab []
theorem E59_1g (F : Nat)    (d : sh59_1.den) (K : KF) : evBody Try.prog (tab []) 6 0 (ltab []) code59 Try.f59.results.toList (encT sh59_1.vs d.1) (encH sh59_1.h d.2) K = (fun (a1 : ByteArray) (K0 : (Bool → Option Res)) => K0 ((a1.size : Int) == 64)) d.1.1 (fun (y0 : Bool) => K [.lf (.bool y0)] []) := by kernel_rfl
theorem E59_1 (F : Nat) (d : sh59_1.den) (K : KF) : evBody Try.prog (T59_1 F) 6 0 (LT59_1 F) code59 Try.f59.results.toList (encT sh59_1.vs d.1) (encH sh59_1.h d.2) K = f59_1 F d.1.1 (fun (y0 : Bool) => K [.lf (.bool y0)] []) := Eq.mp (by kernel_rfl) (E59_1g F    d K)
theorem S59_1_ok (F : Nat) (o : Summ) (ho : SoundFn Try.prog 59 o) : SoundFn Try.prog 59 (S59_1 F o) :=
  soundFn_of (fn := Try.f59) (c := code59) (by kernel_rfl) tab_nil (by kernel_rfl) (by kernel_rfl) ho (by rw [loops59]; exact loopsOK_nil) (by rw [scopes59]; exact scopesOK_nil) (E59_1 F)
end Go.Proofs.Ytillbabmlfjegaa.X
end

section
namespace Go.Proofs.Ytillbabmlfjegaa.X
open Go Go.Proofs.Ytillbabmlfjegaa.Ev Go.Proofs
set_option linter.unusedVariables false
/-! pentimentoref03.first -/
noncomputable def f118_1 {β : Type} (F : Nat)  (K0 : List Int → Option β) : Option β := K0 [1779033703, 3144134277, 1013904242, 2773480762, 1359893119, 2600822924, 528734635, 1541459225]
def sh118_1 : Sh := ⟨[], []⟩
noncomputable def S118_1 (F : Nat) (o : Summ) : Summ := mkS sh118_1 (fun d K => f118_1 F (fun (y0 : List Int) => K [.agg [.seq (.int .u32) 8 y0]] [])) o
noncomputable def code118 : Code := bodyOf Try.f118
theorem scopes118 : scopesOf code118 = [] := by kernel_rfl
theorem loops118 : loopsOf code118 = [] := by kernel_rfl
theorem enter118 : ∀ args w, (callFunc 118 args).run Try.prog w = .ok (.enter 118 args) w := enter_of (fn := Try.f118) (by kernel_rfl) (by kernel_rfl) (by kernel_rfl)
noncomputable def T118_1 (F : Nat) : FuncId → Option Summ := tab []
noncomputable def LT118_1 (F : Nat) : Nat → Option LoopS := ltab []
theorem E118_1g (F : Nat)    (d : sh118_1.den) (K : KF) : evBody Try.prog (tab []) 2 0 (ltab []) code118 Try.f118.results.toList (encT sh118_1.vs d.1) (encH sh118_1.h d.2) K = (fun (K0 : (List Int → Option Res)) => K0 [1779033703, 3144134277, 1013904242, 2773480762, 1359893119, 2600822924, 528734635, 1541459225]) (fun (y0 : List Int) => K [.agg [.seq (.int .u32) 8 y0]] []) := by kernel_rfl
theorem E118_1 (F : Nat) (d : sh118_1.den) (K : KF) : evBody Try.prog (T118_1 F) 2 0 (LT118_1 F) code118 Try.f118.results.toList (encT sh118_1.vs d.1) (encH sh118_1.h d.2) K = f118_1 F (fun (y0 : List Int) => K [.agg [.seq (.int .u32) 8 y0]] []) := Eq.mp (by kernel_rfl) (E118_1g F    d K)
theorem S118_1_ok (F : Nat) (o : Summ) (ho : SoundFn Try.prog 118 o) : SoundFn Try.prog 118 (S118_1 F o) :=
  soundFn_of (fn := Try.f118) (c := code118) (by kernel_rfl) tab_nil (by kernel_rfl) (by kernel_rfl) ho (by rw [loops118]; exact loopsOK_nil) (by rw [scopes118]; exact scopesOK_nil) (E118_1 F)
end Go.Proofs.Ytillbabmlfjegaa.X
end
