import Derived.Test.YtdjmfiofdceodaaW1
set_option linter.unusedVariables false
set_option linter.unusedSimpArgs false
set_option linter.unusedSectionVars false
section
/- The order of the text stands for all: the walk over all orders. -/
namespace Go.Abs
open Go Go.RowKit

structure StepD (m0 : M) (H0 : AH) (w00 : World) (lim : Nat) (m : M) (H : AH) (w : World) : Prop where
  sub : Sub m0 m
  dom : ∀ b, m0 b = none → (b < H0.next ∨ lim ≤ b) → m b = none
  keep : ∀ k, k < w00.heap.size → ¬ Owns m0 H0 k → w.heap[k]? = w00.heap[k]?
  owns : ∀ k, k < w00.heap.size → Owns m H k → Owns m0 H0 k
  live : ∀ k, k < w00.heap.size → Live m H k → Live m0 H0 k
  size : w00.heap.size ≤ w.heap.size
  shape : ∀ k, k < w00.heap.size → w.shape? k = w00.shape? k

section
variable {P : Program} {call : Nat → List AV → AH → Option (AV × AH)} {ops : List Oper}
variable {α0 : List AV} {H0 : AH} {α' : List AV} {H' : AH} {tr : List Tr} {αs : Nat → List AV} {Hs : Nat → AH} {rn : Nat → Bool} {vs : Nat → AV}
variable {w0 w00 : World} {L : Nat} {m0 : M}

/-- What is so between two operations, in whatever order: the heap is that of the text's order ahead of p; what was made beyond p waits. -/
structure Core (P : Program) (ops : List Oper) (Hs : Nat → AH) (rn : Nat → Bool) (w0 w00 : World) (L : Nat) (m0 : M) (H0 : AH) (D : Nat → Prop) (m : M) (w : World) (p : Nat) : Prop where
  hp : p ≤ ops.length
  done : ∀ (i : Nat) (o : Oper), i < p → ops[i]? = some o → 2 ≤ cls P o.op → D i
  nowr : ∀ (i : Nat) (o : Oper), p ≤ i → ops[i]? = some o → cls P o.op = 3 → ¬ D i
  r : R w0 0 m (Hs p) w
  pend : ∀ (i : Nat) (o : Oper), p ≤ i → ops[i]? = some o → cls P o.op = 2 → D i → rn i = true → ∃ c q, Hs (i + 1) = (Hs i).add (.cells c true) ∧ m (Hs i).next = some q ∧ OR w0.heap.size m w q (.cells c true) ∧ ¬ Live m (Hs p) q.1 ∧ w00.heap.size ≤ q.1
  dist : ∀ (i i' : Nat) (o o' : Oper) (q q' : Nat × Nat × Nat), p ≤ i → p ≤ i' → ops[i]? = some o → ops[i']? = some o' → cls P o.op = 2 → cls P o'.op = 2 → D i → D i' → rn i = true → rn i' = true → i ≠ i' → m (Hs i).next = some q → m (Hs i').next = some q' → q.1 ≠ q'.1
  unm : ∀ i, i < ops.length → ¬ D i → ∀ b, (Hs i).next ≤ b → b < (Hs (i + 1)).next → m b = none
  top : ∀ b, (Hs ops.length).next ≤ b → b < L → m b = none
  st : StepD m0 H0 w00 (Hs ops.length).next m (Hs p) w

theorem cls_le (P : Program) (o : Op) : cls P o ≤ 3 := by
  cases o with
  | call c =>
    obtain ⟨callee, args, ts⟩ := c
    cases callee with
    | builtin b => cases b <;> first | exact Nat.le_refl 3 | exact Nat.zero_le 3
    | _ => exact Nat.le_refl 3
  | convert s d x => unfold cls; simp only; split <;> omega
  | alloc t => unfold cls; simp only; split <;> omega
  | _ => first | exact Nat.le_refl 3 | exact Nat.zero_le 3 | exact (Nat.le_of_ble_eq_true rfl : 1 ≤ 3) | exact (Nat.le_of_ble_eq_true rfl : 2 ≤ 3)

theorem load_next {α : List AV} {o : Op} (hc : cls P o = 1) {H H2 : AH} {v : AV} (h : evOp P call α o H = some (v, H2)) : H2 = H := by
  cases o with
  | load t a =>
    simp only [evOp, evOpE] at h
    split at h
    · simp only [Option.map_eq_some_iff, Prod.mk.injEq] at h
      obtain ⟨q, hq, rfl, rfl⟩ := h
      rfl
    · cases h
  | call c =>
    obtain ⟨callee, args, ts⟩ := c
    cases callee with
    | builtin b => cases b <;> simp [cls] at hc
    | _ => simp [cls] at hc
  | convert s d x => simp only [cls] at hc; split at hc <;> omega
  | alloc t => simp only [cls] at hc; split at hc <;> omega
  | _ => simp [cls] at hc

theorem heap_stays (T : TF P call ops ops tr α0 H0 α' H' αs Hs rn vs) {i : Nat} {o : Oper} (ho : ops[i]? = some o) (h : cls P o.op < 2 ∨ rn i = false) : Hs (i + 1) = Hs i := by
  obtain ⟨_, h1, h2, _⟩ := T.step i o ho
  cases hr : rn i with
  | false => exact (h2 hr).1
  | true =>
    rcases h with h | h
    · have he := h1 hr
      rcases (by omega : cls P o.op = 0 ∨ cls P o.op = 1) with hc | hc
      · exact (cls0 hc he).1
      · exact load_next hc he
    · rw [hr] at h; cases h

/-- On to the next place. -/
theorem Core.adv (hm : CallMono call) (T : TF P call ops ops tr α0 H0 α' H' αs Hs rn vs) {D : Nat → Prop} {m : M} {w : World} {p : Nat} (h : Core P ops Hs rn w0 w00 L m0 H0 D m w p) {o : Oper} (ho : ops[p]? = some o) (hd : cls P o.op < 2 ∨ D p) :
    Core P ops Hs rn w0 w00 L m0 H0 D m w (p + 1) := by
  have hlt := lt_of_get ho
  have hdone : ∀ (i : Nat) (x : Oper), i < p + 1 → ops[i]? = some x → 2 ≤ cls P x.op → D i := by
    intro i x hi hx hc
    by_cases e : i = p
    · subst e; rw [ho] at hx; simp only [Option.some.injEq] at hx; subst hx
      rcases hd with hd | hd
      · omega
      · exact hd
    · exact h.done i x (by omega) hx hc
  by_cases hs : cls P o.op < 2 ∨ rn p = false
  · have e := heap_stays T ho hs
    exact ⟨hlt, hdone, fun i x hi => h.nowr i x (by omega), by rw [e]; exact h.r, fun i x hi hx hc hDi hr => by rw [e]; exact h.pend i x (by omega) hx hc hDi hr, fun i i' x x' q q' hi hi' => h.dist i i' x x' q q' (by omega) (by omega), h.unm, h.top, by rw [e]; exact h.st⟩
  · have hDp : D p := by
      rcases hd with hd | hd
      · exact absurd (.inl hd) hs
      · exact hd
    have hr : rn p = true := by cases hr : rn p with | true => rfl | false => exact absurd (.inr hr) hs
    have h2 : cls P o.op = 2 := by
      have h3 : cls P o.op ≠ 3 := fun h3 => h.nowr p o (Nat.le_refl _) ho h3 hDp
      have h4 := cls_le P o.op
      omega
    obtain ⟨c, q, e1, e2, e3, e4, e5⟩ := h.pend p o (Nat.le_refl _) ho h2 hDp hr
    have hget : ∀ j, (Hs (p + 1)).get j = if j = (Hs p).next then some (.cells c true) else (Hs p).get j := fun j => by rw [e1, AH.get_add]
    have hlive : ∀ k, Live m (Hs (p + 1)) k → k = q.1 ∨ Live m (Hs p) k := by
      rintro k ⟨b, x, q', g1, g2, g3⟩
      rw [hget] at g1
      split at g1
      · rename_i e; subst e; rw [e2] at g2; simp only [Option.some.injEq] at g2; subst g2; exact .inl g3.symm
      · exact .inr ⟨b, x, q', g1, g2, g3⟩
    have howns : ∀ k, Owns m (Hs (p + 1)) k → k = q.1 ∨ Owns m (Hs p) k := by
      rintro k ⟨b, x, q', g1, go, g2, g3⟩
      rw [hget] at g1
      split at g1
      · rename_i e; subst e; rw [e2] at g2; simp only [Option.some.injEq] at g2; subst g2; exact .inl g3.symm
      · exact .inr ⟨b, x, q', g1, go, g2, g3⟩
    refine ⟨hlt, hdone, fun i x hi => h.nowr i x (by omega), ?_, ?_, fun i i' x x' q q' hi hi' => h.dist i i' x x' q q' (by omega) (by omega), h.unm, h.top, ?_⟩
    · refine ⟨h.r.below, fun b _ hb => by omega, fun b hb => ?_, h.r.inb, fun b x hx => ?_, ?_, by rw [e1]; exact h.r.old_add _, by rw [e1]; exact h.r.ty⟩
      · rw [hget, if_neg (by rw [e1] at hb; simp only [AH.add] at hb; omega)]
        exact h.r.bound b (by rw [e1] at hb; simp only [AH.add] at hb; omega)
      · rw [hget] at hx
        split at hx
        · rename_i e; subst e; simp only [Option.some.injEq] at hx; subst hx; exact ⟨q, e2, e3⟩
        · exact h.r.dom b x hx
      · intro b b' vs' x q1 q2 hb ho' hb' hne hq hq'
        rw [hget] at hb hb'
        split at hb
        · rename_i e
          subst e
          rw [e2] at hq
          simp only [Option.some.injEq] at hq
          subst hq
          rw [if_neg (fun e => hne e.symm)] at hb'
          exact .inl fun e => e4 ⟨b', x, q2, hb', hq', e.symm⟩
        · split at hb'
          · rename_i e'
            subst e'
            rw [e2] at hq'
            simp only [Option.some.injEq] at hq'
            subst hq'
            exact .inl fun e => e4 ⟨b, _, q1, hb, hq, e⟩
          · rename_i n1 n2
            rw [e1]
            exact (h.r.inj b b' vs' x q1 q2 hb ho' hb' hne hq hq').imp_right (Sib.add n1 n2)
    · intro i x hi hx hc hDi hri
      obtain ⟨c2, q2, f1, f2, f3, f4, f5⟩ := h.pend i x (by omega) hx hc hDi hri
      refine ⟨c2, q2, f1, f2, f3, fun hl => ?_, f5⟩
      rcases hlive _ hl with hl | hl
      · exact h.dist i p x o q2 q (by omega) (Nat.le_refl _) hx ho hc h2 hDi hDp hri hr (by omega) f2 e2 hl
      · exact f4 hl
    · refine ⟨h.st.sub, h.st.dom, h.st.keep, fun k hk ho' => ?_, fun k hk hl => ?_, h.st.size, h.st.shape⟩
      · rcases howns k ho' with rfl | ho'
        · omega
        · exact h.st.owns k hk ho'
      · rcases hlive k hl with rfl | hl
        · omega
        · exact h.st.live k hk hl

/-- As far as it goes. -/
theorem Core.far (hm : CallMono call) (T : TF P call ops ops tr α0 H0 α' H' αs Hs rn vs) {D : Nat → Prop} {m : M} {w : World} : ∀ (k p : Nat), ops.length - p = k → Core P ops Hs rn w0 w00 L m0 H0 D m w p →
    ∃ p', Core P ops Hs rn w0 w00 L m0 H0 D m w p' ∧ (p' = ops.length ∨ ∃ o, ops[p']? = some o ∧ 2 ≤ cls P o.op ∧ ¬ D p')
  | 0, p, hk, h => ⟨p, h, .inl (by have := h.hp; omega)⟩
  | k + 1, p, hk, h => by
    have ho : ops[p]? = some ops[p] := List.getElem?_eq_getElem (by omega)
    by_cases hd : cls P ops[p].op < 2 ∨ D p
    · exact Core.far hm T k (p + 1) (by omega) (h.adv hm T ho hd)
    · exact ⟨p, h, .inr ⟨_, ho, by omega, fun hD => hd (.inr hD)⟩⟩

/-- One more is done, which made nothing of the heap ahead of p. -/
theorem Core.move (hm : CallMono call) (T : TF P call ops ops tr α0 H0 α' H' αs Hs rn vs) {D : Nat → Prop} {m m' : M} {w w' : World} {p j : Nat} (h : Core P ops Hs rn w0 w00 L m0 H0 D m w p) {o : Oper} (ho : ops[j]? = some o) (h3 : cls P o.op ≠ 3)
    (hsub : Sub m m') (hkeep : ∀ k, k < w.heap.size → w'.heap[k]? = w.heap[k]?) (hbel : Below w0.heap.size w0 w') (hsize : w.heap.size ≤ w'.heap.size) (hres : ∀ b, m b = none → ¬ ((Hs j).next ≤ b ∧ b < (Hs (j + 1)).next) → m' b = none) (hinb : ∀ b q, m' b = some q → q.1 < w'.heap.size)
    (hnew : ∀ b q, m b = none → m' b = some q → w.heap.size ≤ q.1)
    (hj : p ≤ j → cls P o.op = 2 → rn j = true → ∃ c q, Hs (j + 1) = (Hs j).add (.cells c true) ∧ m (Hs j).next = none ∧ m' (Hs j).next = some q ∧ OR w0.heap.size m' w' q (.cells c true)) :
    Core P ops Hs rn w0 w00 L m0 H0 (fun i => D i ∨ i = j) m' w' p := by
  have hmono := fun i (hi : i < ops.length) => heaps_mono hm T i hi
  have hle := fun k i (hi : i + k ≤ ops.length) => heaps_le hm T k i hi
  have hjl := lt_of_get ho
  have hsame : ∀ b x, (Hs p).get b = some x → ∀ q, m' b = some q → m b = some q := by
    intro b x hx q hq
    obtain ⟨q0, hq0, _⟩ := h.r.dom b x hx
    rw [hsub b q0 hq0] at hq
    rw [hq0, hq]
  have hlive : ∀ k, Live m' (Hs p) k → Live m (Hs p) k := fun k ⟨b, x, q, g1, g2, g3⟩ => ⟨b, x, q, g1, hsame b x g1 q g2, g3⟩
  have howns : ∀ k, Owns m' (Hs p) k → Owns m (Hs p) k := fun k ⟨b, x, q, g1, go, g2, g3⟩ => ⟨b, x, q, g1, go, hsame b _ g1 q g2, g3⟩
  have hlt : ∀ k, Live m (Hs p) k → k < w.heap.size := fun k ⟨b, x, q, g1, g2, g3⟩ => by rw [← g3]; exact h.r.inb b q g2
  have hpend : ∀ (i : Nat) (x : Oper), p ≤ i → ops[i]? = some x → cls P x.op = 2 → (D i ∨ i = j) → rn i = true → ∃ c q, Hs (i + 1) = (Hs i).add (.cells c true) ∧ m' (Hs i).next = some q ∧ OR w0.heap.size m' w' q (.cells c true) ∧ ¬ Live m' (Hs p) q.1 ∧ w00.heap.size ≤ q.1 ∧ ((D i ∧ m (Hs i).next = some q) ∨ (i = j ∧ w.heap.size ≤ q.1)) := by
    intro i x hi hx hc hDi hr
    by_cases hD : D i
    · obtain ⟨c, q, f1, f2, f3, f4, f5⟩ := h.pend i x hi hx hc hD hr
      exact ⟨c, q, f1, hsub _ _ f2, (f3.heap (hkeep _ (h.r.inb _ _ f2))).sub hsub, fun hl => f4 (hlive _ hl), f5, .inl ⟨hD, f2⟩⟩
    · have e : i = j := hDi.resolve_left hD
      subst e
      rw [ho] at hx
      simp only [Option.some.injEq] at hx
      subst hx
      obtain ⟨c, q, f1, f0, f2, f3⟩ := hj hi hc hr
      have hge := hnew _ q f0 f2
      exact ⟨c, q, f1, f2, f3, fun hl => by have := hlt _ (hlive _ hl); omega, Nat.le_trans h.st.size hge, .inr ⟨rfl, hge⟩⟩
  refine ⟨h.hp, fun i x hi hx hc => .inl (h.done i x hi hx hc), fun i x hi hx hc hDi => ?_, ?_, fun i x hi hx hc hDi hr => ?_, ?_, ?_, ?_, ?_⟩
  · rcases hDi with hDi | rfl
    · exact h.nowr i x hi hx hc hDi
    · rw [ho] at hx; simp only [Option.some.injEq] at hx; subst hx; exact h3 hc
  · refine ⟨hbel, fun b _ hb => by omega, h.r.bound, hinb, fun b x hx => ?_, fun b b' vs' x q q' g1 go g2 hne g3 g4 => h.r.inj b b' vs' x q q' g1 go g2 hne (hsame b _ g1 q g3) (hsame b' _ g2 q' g4), h.r.old, h.r.tyS hsub (fun k hk => shape_of_heap (hkeep k hk))⟩
    obtain ⟨q, hq, hor⟩ := h.r.dom b x hx
    exact ⟨q, hsub _ _ hq, (hor.heap (hkeep _ (h.r.inb _ _ hq))).sub hsub⟩
  · obtain ⟨c, q, f1, f2, f3, f4, f5, _⟩ := hpend i x hi hx hc hDi hr
    exact ⟨c, q, f1, f2, f3, f4, f5⟩
  · intro i i' x x' q q' hi hi' hx hx' hc hc' hD hD' hr hr' hne hq hq'
    obtain ⟨_, q1, _, f2, _, _, _, f6⟩ := hpend i x hi hx hc hD hr
    obtain ⟨_, q2, _, g2, _, _, _, g6⟩ := hpend i' x' hi' hx' hc' hD' hr'
    rw [hq] at f2; rw [hq'] at g2
    simp only [Option.some.injEq] at f2 g2
    subst f2; subst g2
    rcases f6 with ⟨d1, k1⟩ | ⟨e1, k1⟩ <;> rcases g6 with ⟨d2, k2⟩ | ⟨e2, k2⟩
    · exact h.dist i i' x x' q q' hi hi' hx hx' hc hc' d1 d2 hr hr' hne k1 k2
    · have := h.r.inb _ _ k1; omega
    · have := h.r.inb _ _ k2; omega
    · omega
  · intro i hi hDi b hb1 hb2
    have hij : i ≠ j := fun e => hDi (.inr e)
    refine hres b (h.unm i hi (fun hD => hDi (.inl hD)) b hb1 hb2) ?_
    rintro ⟨c1, c2⟩
    rcases Nat.lt_or_ge i j with hlt' | hge
    · have := hle (j - (i + 1)) (i + 1) (by omega)
      rw [show i + 1 + (j - (i + 1)) = j by omega] at this
      omega
    · have := hle (i - (j + 1)) (j + 1) (by omega)
      rw [show j + 1 + (i - (j + 1)) = i by omega] at this
      omega
  · intro b hb hL
    refine hres b (h.top b hb hL) ?_
    rintro ⟨c1, c2⟩
    have := hle (ops.length - (j + 1)) (j + 1) (by omega)
    rw [show j + 1 + (ops.length - (j + 1)) = ops.length by omega] at this
    omega
  · refine ⟨h.st.sub.trans hsub, fun b hb hr => ?_, fun k hk hn => (hkeep k (Nat.lt_of_lt_of_le hk h.st.size)).trans (h.st.keep k hk hn), fun k hk ho' => h.st.owns k hk (howns k ho'), fun k hk hl => h.st.live k hk (hlive k hl), Nat.le_trans h.st.size hsize, fun k hk => (shape_of_heap (hkeep k (Nat.lt_of_lt_of_le hk h.st.size))).trans (h.st.shape k hk)⟩
    refine hres b (h.st.dom b hb hr) ?_
    rintro ⟨c1, c2⟩
    rcases hr with hr | hr
    · have := hle j 0 (by omega)
      rw [Nat.zero_add, T.h0] at this
      omega
    · have := hle (ops.length - (j + 1)) (j + 1) (by omega)
      rw [show j + 1 + (ops.length - (j + 1)) = ops.length by omega] at this
      omega
end
end Go.Abs
end
section
/- The order of the text stands for all: one operation at a time. -/
namespace Go.Abs
open Go Go.RowKit

section
variable {P : Program} {call : Nat → List AV → AH → Option (AV × AH)} {ops : List Oper}
variable {α0 : List AV} {H0 : AH} {α' : List AV} {H' : AH} {tr : List Tr} {αs : Nat → List AV} {Hs : Nat → AH} {rn : Nat → Bool} {vs : Nat → AV}
variable {w0 w00 : World} {L : Nat} {m0 : M}

/-- A writer which is passed over. -/
theorem Core.skip (T : TF P call ops ops tr α0 H0 α' H' αs Hs rn vs) {D : Nat → Prop} {m : M} {w : World} {p : Nat} (h : Core P ops Hs rn w0 w00 L m0 H0 D m w p) {o : Oper} (ho : ops[p]? = some o) (hr : rn p = false) :
    Core P ops Hs rn w0 w00 L m0 H0 (fun i => D i ∨ i = p) m w (p + 1) := by
  have hlt := lt_of_get ho
  have e := heap_stays T ho (.inr hr)
  have hold : ∀ i, p + 1 ≤ i → (D i ∨ i = p) → D i := fun i hi hd => hd.resolve_right (by omega)
  refine ⟨hlt, fun i x hi hx hc => ?_, fun i x hi hx hc hd => h.nowr i x (by omega) hx hc (hold i hi hd), by rw [e]; exact h.r, fun i x hi hx hc hd hri => by rw [e]; exact h.pend i x (by omega) hx hc (hold i hi hd) hri,
    fun i i' x x' q q' hi hi' hx hx' hc hc' hd hd' => h.dist i i' x x' q q' (by omega) (by omega) hx hx' hc hc' (hold i hi hd) (hold i' hi' hd'), fun i hi hd => h.unm i hi (fun k => hd (.inl k)), h.top, by rw [e]; exact h.st⟩
  by_cases he : i = p
  · exact .inr he
  · exact .inl (h.done i x (by omega) hx hc)

/-- A writer, at its place. -/
theorem Core.write (hm : CallMono call) (T : TF P call ops ops tr α0 H0 α' H' αs Hs rn vs) {D : Nat → Prop} {m m' : M} {w w' : World} {p : Nat} (h : Core P ops Hs rn w0 w00 L m0 H0 D m w p) {o : Oper} (ho : ops[p]? = some o) {L' : Nat}
    (hs : Step m (Hs p) w m' (Hs (p + 1)) w') (hr : R w0 L' m' (Hs (p + 1)) w') : Core P ops Hs rn w0 w00 L m0 H0 (fun i => D i ∨ i = p) m' w' (p + 1) := by
  have hlt := lt_of_get ho
  have hle := fun k i (hi : i + k ≤ ops.length) => heaps_le hm T k i hi
  have hold : ∀ i, p + 1 ≤ i → (D i ∨ i = p) → D i := fun i hi hd => hd.resolve_right (by omega)
  have hpend : ∀ (i : Nat) (x : Oper), p + 1 ≤ i → ops[i]? = some x → cls P x.op = 2 → D i → rn i = true → ∃ c q, Hs (i + 1) = (Hs i).add (.cells c true) ∧ m (Hs i).next = some q ∧ m' (Hs i).next = some q ∧ OR w0.heap.size m' w' q (.cells c true) ∧ ¬ Live m' (Hs (p + 1)) q.1 ∧ w00.heap.size ≤ q.1 := by
    intro i x hi hx hc hd hri
    obtain ⟨c, q, f1, f2, f3, f4, f5⟩ := h.pend i x (by omega) hx hc hd hri
    have hq := h.r.inb _ _ f2
    exact ⟨c, q, f1, f2, hs.sub _ _ f2, (f3.heap (hs.keep _ hq (fun k => f4 k.live))).sub hs.sub, fun k => f4 (hs.live _ hq k), f5⟩
  refine ⟨hlt, fun i x hi hx hc => ?_, fun i x hi hx hc hd => h.nowr i x (by omega) hx hc (hold i hi hd), ⟨hr.below, fun b _ hb => by omega, hr.bound, hr.inb, hr.dom, hr.inj, hr.old, hr.ty⟩, fun i x hi hx hc hd hri => ?_,
    fun i i' x x' q q' hi hi' hx hx' hc hc' hd hd' hr hr' hne hq hq' => ?_, fun i hi hd b hb1 hb2 => ?_, fun b hb hL => ?_, ?_⟩
  · by_cases he : i = p
    · exact .inr he
    · exact .inl (h.done i x (by omega) hx hc)
  · obtain ⟨c, q, f1, f2, f3, f4, f5, f6⟩ := hpend i x hi hx hc (hold i hi hd) hri
    exact ⟨c, q, f1, f3, f4, f5, f6⟩
  · obtain ⟨_, q1, _, f2, f3, _⟩ := hpend i x hi hx hc (hold i hi hd) hr
    obtain ⟨_, q2, _, g2, g3, _⟩ := hpend i' x' hi' hx' hc' (hold i' hi' hd') hr'
    rw [hq] at f3; rw [hq'] at g3
    simp only [Option.some.injEq] at f3 g3
    subst f3; subst g3
    exact h.dist i i' x x' q q' (by omega) (by omega) hx hx' hc hc' (hold i hi hd) (hold i' hi' hd') hr hr' hne f2 g2
  · refine hs.dom b (h.unm i hi (fun k => hd (.inl k)) b hb1 hb2) ?_
    rcases Nat.lt_trichotomy i p with hlt' | rfl | hgt
    · have := hle (p - (i + 1)) (i + 1) (by omega)
      rw [show i + 1 + (p - (i + 1)) = p by omega] at this
      exact .inl (by omega)
    · exact absurd (.inr rfl) hd
    · have := hle (i - (p + 1)) (p + 1) (by omega)
      rw [show p + 1 + (i - (p + 1)) = i by omega] at this
      exact .inr (by omega)
  · refine hs.dom b (h.top b hb hL) (.inr ?_)
    have := hle (ops.length - (p + 1)) (p + 1) (by omega)
    rw [show p + 1 + (ops.length - (p + 1)) = ops.length by omega] at this
    omega
  · refine ⟨h.st.sub.trans hs.sub, fun b hb hr => ?_, fun k hk hn => ?_, fun k hk ho' => h.st.owns k hk (hs.owns k (Nat.lt_of_lt_of_le hk h.st.size) ho'), fun k hk hl => h.st.live k hk (hs.live k (Nat.lt_of_lt_of_le hk h.st.size) hl), Nat.le_trans h.st.size hs.size, fun k hk => (hs.shape k (Nat.lt_of_lt_of_le hk h.st.size)).trans (h.st.shape k hk)⟩
    · refine hs.dom b (h.st.dom b hb hr) ?_
      rcases hr with hr | hr
      · have := hle p 0 (by omega)
        rw [Nat.zero_add, T.h0] at this
        exact .inl (by omega)
      · have := hle (ops.length - (p + 1)) (p + 1) (by omega)
        rw [show p + 1 + (ops.length - (p + 1)) = ops.length by omega] at this
        exact .inr (by omega)
    · exact (hs.keep k (Nat.lt_of_lt_of_le hk h.st.size) (fun k' => hn (h.st.owns k hk k'))).trans (h.st.keep k hk hn)

/-! ### Heaps with nothing of one's own -/
def bare (n : Nat) : AH := ⟨n, .leaf, .leaf, .leaf⟩
theorem bare_tab (n b : Nat) : (bare n).tab.get b = none := rfl
theorem bare_get (n b : Nat) : (bare n).get b = none := rfl
theorem R.bare {m : M} {H : AH} {w : World} {L1 L2 n : Nat} (h : R w0 L1 m H w) (hf : ∀ b, n ≤ b → b < L2 → m b = none) : R w0 L2 m (bare n) w :=
  ⟨h.below, hf, fun b _ => rfl, h.inb, fun b x hx => (by rw [bare_get] at hx; cases hx), fun b b' vs x q q' hx => (by rw [bare_get] at hx; cases hx), fun b x hx => (by rw [bare_get] at hx; cases hx), fun b t ht => (by cases ht)⟩
/-- One block alone, to be read. -/
theorem R.alone {m : M} {H : AH} {w : World} {L1 b : Nat} {vs : List AV} {own : Bool} (h : R w0 L1 m H w) (hb : H.get b = some (.cells vs own)) : R w0 (b + 1) m ((Go.Abs.bare (b + 1)).put b (some (.cells vs false))) w := by
  have hg : ∀ j, ((Go.Abs.bare (b + 1)).put b (some (.cells vs false))).get j = if j = b then some (.cells vs false) else none := fun j => by rw [AH.get_put_new _ (bare_tab _ _), bare_get]
  refine ⟨h.below, fun j h1 h2 => ?_, fun j h1 => ?_, h.inb, fun j x hx => ?_, fun j b' vs' x q q' hx => ?_, fun j x hx _ => ?_, fun j t ht => (by cases ht)⟩
  · have : b + 1 ≤ j := h1
    omega
  · have : b + 1 ≤ j := h1
    rw [hg, if_neg (by omega)]
  · rw [hg] at hx
    split at hx
    · rename_i e
      subst e
      simp only [Option.some.injEq] at hx
      subst hx
      obtain ⟨q, hq, hor⟩ := h.dom _ _ hb
      exact ⟨q, hq, hor.1, hor.2.1, fun k => by cases k⟩
    · cases hx
  · rw [hg] at hx
    intro ho
    split at hx
    · simp only [Option.some.injEq] at hx
      subst hx
      cases ho
    · cases hx
  · rw [hg] at hx
    split at hx
    · simp only [Option.some.injEq] at hx
      subst hx
      rfl
    · cases hx

theorem loadA_get {t : TypeId} {G H : AH} {b off : Nat} (h : ∀ n, rd G b off n = rd H b off n) : loadA P t G b off = loadA P t H b off := by
  unfold loadA
  simp only [h]
theorem rd_get {G H : AH} {b : Nat} (h : G.get b = H.get b) (off n : Nat) : rd G b off n = rd H b off n := by
  unfold rd
  rw [h]
theorem loadA_live {t : TypeId} {H : AH} {b off : Nat} {v : AV} (h : loadA P t H b off = some v) : ∃ vs own, H.get b = some (.cells vs own) := by
  have key : ∀ n l, rd H b off n = some l → ∃ vs own, H.get b = some (.cells vs own) := by
    intro n l hr
    unfold rd at hr
    split at hr
    · rename_i vs own e; exact ⟨vs, own, e⟩
    · cases hr
  unfold loadA at h
  split at h
  · split at h
    · rename_i n _
      cases hr : rd H b off n with
      | none => rw [hr] at h; cases h
      | some l => exact key _ _ hr
    · cases h
  · split at h
    · rename_i v' hr; exact key _ _ hr
    · cases h
  · cases h
theorem loadAt_eq {t : TypeId} {H : AH} {b off : Nat} {v : AV} (h : loadAt P H t b off v = true) : loadA P t H b off = some v := by
  unfold loadAt at h
  split at h
  · rename_i x hx; rw [hx, same_eq _ _ h]
  · cases h

/-- An operation that owns nothing. -/
theorem quiet_wp {m : M} {w : World} {G G' : AH} {L' : Nat} (hcall : CallOK P w0 call) {β : List AV} {a : Act} (hF : FR m β a) (hR : R w0 L' m G w) (hno : ∀ b y, G.get b = some y → y.own = false) (hL : G'.next ≤ L') {o : Oper} {v : AV} (he : evOp P call β o.op G = some (v, G'))
    {K : Act → World → Prop} {Q : Exit → Act → World → Prop} (hK : ∀ u w' m', Sub m m' → (∀ k, k < w.heap.size → w'.heap[k]? = w.heap[k]?) → Below w0.heap.size w0 w' → w.heap.size ≤ w'.heap.size → (∀ b, m b = none → ¬ (G.next ≤ b ∧ b < G'.next) → m' b = none) →
      (∀ b q, m' b = some q → q.1 < w'.heap.size) → R w0 L' m' G' w' → (∀ k, Owns m' G' k → w.heap.size ≤ k) → FR m' (setD β o.dst v) (a.put o.dst u) → K (a.put o.dst u) w') : o.wp P a w K Q := by
  have hnone : ∀ k, ¬ Owns m G k := fun k ⟨b, y, q, h1, ho, _⟩ => by rw [hno b y h1] at ho; cases ho
  refine op_wp hL hcall hF hR he (fun u w' m' h1 h2 h3 => ?_)
  refine hK u w' m' h1.sub (fun k hk => h1.keep k hk (hnone k)) h3.below h1.size (fun b hb hn => h1.dom b hb (by omega)) h3.inb h3 (fun k ho => ?_) ?_
  · rcases Nat.lt_or_ge k w.heap.size with hlt | hge
    · exact absurd (h1.owns k hlt ho) (hnone k)
    · exact hge
  · have := (hF.sub h1.sub).put h2 o.dst
    unfold setD
    exact this
end
end Go.Abs
end
section
/- The order of the text stands for all: the theorem. -/
namespace Go.Abs
open Go Go.RowKit

section
variable {P : Program} {call : Nat → List AV → AH → Option (AV × AH)} {ops : List Oper}
variable {α0 : List AV} {H0 : AH} {α' : List AV} {H' : AH} {tr : List Tr} {αs : Nat → List AV} {Hs : Nat → AH} {rn : Nat → Bool} {vs : Nat → AV}
variable {w0 w00 : World} {L : Nat} {m0 : M}

theorem get_stays (T : TF P call ops ops tr α0 H0 α' H' αs Hs rn vs) {i : Nat} {o : Oper} (ho : ops[i]? = some o) (hc : cls P o.op ≠ 3) {b : Nat} (hb : b < (Hs i).next) : (Hs (i + 1)).get b = (Hs i).get b := by
  by_cases h : cls P o.op < 2 ∨ rn i = false
  · rw [heap_stays T ho h]
  · have hr : rn i = true := by
      cases hr : rn i with
      | true => rfl
      | false => exact absurd (.inr hr) h
    have h2 : cls P o.op = 2 := by have := cls_le P o.op; omega
    obtain ⟨c, e, _⟩ := cls2 h2 ((T.step i o ho).2.1 hr)
    rw [e, AH.get_add, if_neg (by omega)]

/-- A read comes to what it comes to in the text's order. -/
theorem load_at (hm : CallMono call) (T : TF P call ops ops tr α0 H0 α' H' αs Hs rn vs) (hreads : readsOK P ops tr H0 H' = true) {D : Nat → Prop} {m : M} {w : World} {p : Nat} (h : Core P ops Hs rn w0 w00 L m0 H0 D m w p)
    (hfar : p = ops.length ∨ ∃ o, ops[p]? = some o ∧ 2 ≤ cls P o.op ∧ ¬ D p) (hD : ∀ j o, ops[j]? = some o → D j → ∀ i ∈ predsOf o, D i) {j : Nat} {o : Oper} (ho : ops[j]? = some o) (hj : ¬ D j) (hp : ∀ i ∈ predsOf o, D i)
    {t : TypeId} {x : Operand} (hop : o.op = .load t x) (hran : rn j = true) : ∃ b off, evalO (αs j) x = .ptr b off ∧ loadA P t (Hs p) b off = some (vs j) := by
  have hlt := lt_of_get ho
  have hle := fun k i (hi : i + k ≤ ops.length) => heaps_le hm T k i hi
  obtain ⟨r, hr, r1, r2, r3⟩ := T.tr_ j o ho
  unfold readsOK at hreads
  have h1 := List.all_eq_true.1 hreads j (List.mem_range.2 hlt)
  rw [ho, hr] at h1
  simp only [hop, r1, r2, r3, hran, Bool.not_true, Bool.false_or] at h1
  split at h1
  · rename_i b off hb
    refine ⟨b, off, hb, ?_⟩
    unfold readOK at h1
    simp only [Bool.and_eq_true, decide_eq_true_eq, List.all_eq_true, List.mem_range] at h1
    obtain ⟨⟨k1, k2⟩, k3⟩ := h1
    rw [T.at_ j (Nat.le_of_lt hlt)] at k1
    have base : loadA P t (Hs j) b off = some (vs j) := by
      have e0 := (T.step j o ho).2.1 hran
      rw [hop] at e0
      simp only [evOp, evOpE, hb, Option.map_eq_some_iff, Prod.mk.injEq] at e0
      obtain ⟨v, e1, e2, _⟩ := e0
      rw [e1, e2]
    have hc1 : cls P o.op = 1 := by rw [hop]; rfl
    rcases Nat.lt_or_ge j p with hjp | hpj
    · -- what was done since then did not touch it
      have up : ∀ d, j + d ≤ p → loadA P t (Hs (j + d)) b off = some (vs j) := by
        intro d
        induction d with
        | zero => exact fun _ => base
        | succ d ih =>
          intro hd
          have hpn := h.hp
          have hi : j + d < ops.length := by omega
          obtain ⟨y, hx⟩ : ∃ y, ops[j + d]? = some y := ⟨_, List.getElem?_eq_getElem hi⟩
          have hbn : b < (Hs (j + d)).next := Nat.lt_of_lt_of_le k1 (hle d j (by omega))
          by_cases h3 : cls P y.op = 3
          · have hne : d ≠ 0 := by
              rintro rfl
              rw [Nat.add_zero, ho] at hx
              simp only [Option.some.injEq] at hx
              rw [← hx] at h3
              omega
            have h4 := k3 (j + d) hi
            rw [hx] at h4
            simp only [h3, beq_self_eq_true, Bool.and_true, Bool.or_eq_true, Bool.not_eq_true', decide_eq_false_iff_not] at h4
            rcases h4 with (h4 | h4) | h4
            · omega
            · have := (ahead_needs h4).of_closed hD (.inl (h.done (j + d) _ (by omega) hx (by omega)))
              exact absurd this hj
            · rw [T.at_ (j + d + 1) (by omega)] at h4
              exact loadAt_eq h4
          · rw [← ih (by omega)]
            exact loadA_get (fun n => rd_get (get_stays T hx h3 hbn) off n)
      have := up (p - j) (by omega)
      rwa [show j + (p - j) = p by omega] at this
    · rcases Nat.lt_or_ge p j with hpj' | hge
      · obtain ⟨y, hy, hy2, hyD⟩ := hfar.resolve_left (by omega)
        have hb0 : b < H0.next := by
          have h4 := k2 p hpj'
          rw [hy] at h4
          simp only [hy2, decide_true, Bool.not_true, Bool.false_or, Bool.or_eq_true, Bool.and_eq_true, decide_eq_true_eq] at h4
          rcases h4 with h4 | h4
          · exact absurd ((ahead_needs h4).of_closed hD (.inr ⟨o, ho, hp⟩)) hyD
          · exact h4.1
        have down : ∀ d, d ≤ j - p → loadA P t (Hs (j - d)) b off = some (vs j) := by
          intro d
          induction d with
          | zero => exact fun _ => base
          | succ d ih =>
            intro hd
            have hi : j - (d + 1) < ops.length := by omega
            have hs : j - (d + 1) + 1 = j - d := by omega
            obtain ⟨z, hx⟩ : ∃ z, ops[j - (d + 1)]? = some z := ⟨_, List.getElem?_eq_getElem hi⟩
            have hbn : b < (Hs (j - (d + 1))).next := by
              have := hle (j - (d + 1)) 0 (by omega)
              rw [Nat.zero_add, T.h0] at this
              omega
            by_cases h3 : cls P z.op = 3
            · have h4 := k2 (j - (d + 1)) (by omega)
              rw [hx] at h4
              have h33 : decide ((2 : Nat) ≤ 3) = true := rfl
              simp only [h3, h33, beq_self_eq_true, Bool.not_true, Bool.false_or, Bool.or_eq_true, Bool.and_eq_true, decide_eq_true_eq] at h4
              rcases h4 with h4 | h4
              · exact absurd ((ahead_needs h4).of_closed hD (.inr ⟨o, ho, hp⟩)) (h.nowr _ _ (by omega) hx h3)
              · have := h4.2
                rw [T.at_ _ (by omega)] at this
                exact loadAt_eq this
            · rw [← ih (by omega), ← hs]
              exact (loadA_get (fun n => rd_get (get_stays T hx h3 hbn) off n)).symm
        have := down (j - p) (Nat.le_refl _)
        rwa [show j - (j - p) = p by omega] at this
      · have : p = j := by omega
        rw [this]
        exact base
  · cases h1

theorem wanted_of {m : M} {β : List AV} {a : Act} (hF : FR m β a) {o : Oper} {b : Bool} (h : goes ops β o = some b) : Region.wanted o (yielded ops.toArray a.tmps) = b := by
  unfold goes at h
  cases hg : o.guard with
  | none => rw [hg] at h; simp only [Option.some.injEq] at h; subst h; simp [Region.wanted, hg]
  | some g =>
    obtain ⟨g, want⟩ := g
    rw [hg] at h
    simp only [Option.map_eq_some_iff] at h
    obtain ⟨y, hy, rfl⟩ := h
    have := yielded_rel hF hy
    simp only [Region.wanted, hg, this]

/-- One operation, in whatever order it comes. -/
theorem step_any (hcall : CallOK P w0 call) (T : TF P call ops ops tr α0 H0 α' H' αs Hs rn vs) (S : StatOK P ops α0.length) (hreads : readsOK P ops tr H0 H' = true) {D : Nat → Prop} {m : M} {w : World} {p : Nat} (h : Core P ops Hs rn w0 w00 L m0 H0 D m w p)
    (hfar : p = ops.length ∨ ∃ o, ops[p]? = some o ∧ 2 ≤ cls P o.op ∧ ¬ D p) (hD : ∀ j o, ops[j]? = some o → D j → ∀ i ∈ predsOf o, D i) {β : List AV} {a : Act} (hF : FR m β a) (hβ : β.length = α0.length) (hl : ∀ t, Last ops α0 vs D t (β.getD t .undef))
    {j : Nat} {o : Oper} (ho : ops[j]? = some o) (hj : ¬ D j) (hp : ∀ i ∈ predsOf o, D i) {K : Act → World → Prop} {Q : Exit → Act → World → Prop}
    (hK : ∀ a' w' m' p' β', Core P ops Hs rn w0 w00 L m0 H0 (fun i => D i ∨ i = j) m' w' p' → FR m' β' a' → β'.length = α0.length → (∀ t, Last ops α0 vs (fun i => D i ∨ i = j) t (β'.getD t .undef)) → K a' w') : wpOp P ops.toArray Q j K a w := by
  have hm := hcall.mono
  have hlt := lt_of_get ho
  obtain ⟨ag, hlast⟩ := agree T S hD hβ hl ho hj hp
  obtain ⟨_, g2, g3, g4⟩ := T.step j o ho
  have hgo : goes ops β o = some (rn j) := by rw [agree_goes ag]; exact g4
  have hev : ∀ G, evOp P call β o.op G = evOp P call (αs j) o.op G := fun G => evOp_congr (agree_reads ag) G
  have more := Last.more hl ho (fun d hd => by rw [hβ]; exact S.s2 j o ho d hd) hlast
  have hlen : (setD β o.dst (vs j)).length = α0.length := by rw [length_setD, hβ]
  have hw3 : cls P o.op = 3 → p = j := by
    intro h3
    rcases Nat.lt_trichotomy p j with hlt' | he | hgt
    · obtain ⟨y, hy, hy2, hyD⟩ := hfar.resolve_left (by omega)
      exact absurd ((S.s4 p j y o hlt' hy ho hy2 h3).of_closed hD (.inr ⟨o, ho, hp⟩)) hyD
    · exact he
    · exact absurd (h.done j o hgt ho (by omega)) hj
  have hget : ops.toArray[j]? = some o := by simpa using ho
  unfold wpOp
  rw [hget]
  simp only [wanted_of hF hgo]
  cases hr : rn j with
  | false =>
    simp only [Bool.false_eq_true, if_false]
    have hv := (g3 hr).2
    rw [hv] at more hlen
    have hF' : FR m (setD β o.dst (.tuple [])) (a.put o.dst undef) := hF.put (.tuple [] #[] .nil) o.dst
    by_cases h3 : cls P o.op = 3
    · have e := hw3 h3
      subst e
      exact hK _ w m (p + 1) _ (h.skip T ho hr) hF' hlen more
    · exact hK _ w m p _ (h.move hm T ho h3 (Sub.refl m) (fun _ _ => rfl) h.r.below (Nat.le_refl _) (fun _ hb _ => hb) h.r.inb (fun b q e1 e2 => by rw [e1] at e2; cases e2) (fun _ _ e => by rw [hr] at e; cases e)) hF' hlen more
  | true =>
    simp only [if_true]
    refine .inl ?_
    have he := g2 hr
    rw [← hev] at he
    have h03 := cls_le P o.op
    rcases (by omega : cls P o.op = 0 ∨ cls P o.op = 1 ∨ cls P o.op = 2 ∨ cls P o.op = 3) with hc | hc | hc | hc
    · -- nothing of the heap
      have he' := (cls0 hc he).2 (bare 0)
      refine quiet_wp (L' := 0) hcall hF (h.r.bare (fun b _ hb => by omega)) (fun b vs => by rw [bare_get]; intro e; cases e) (Nat.le_refl _) he' (fun u w' m' k1 k2 k3 k4 k5 k6 k7 k8 k9 => ?_)
      exact hK _ w' m' p _ (h.move hm T ho (by omega) k1 k2 k3 k4 (fun b hb _ => k5 b hb (by omega)) k6 (fun b q e1 e2 => by rw [k5 b e1 (by omega)] at e2; cases e2) (fun _ e _ => by omega)) k9 hlen more
    · -- a read
      cases hop : o.op with
      | load t x =>
        obtain ⟨b, off, hb, hld⟩ := load_at hm T hreads h hfar hD ho hj hp hop hr
        obtain ⟨c, own, hbc⟩ := loadA_live hld
        have he' : evOp P call β o.op ((bare (b + 1)).put b (some (.cells c false))) = some (vs j, (bare (b + 1)).put b (some (.cells c false))) := by
          rw [hev, hop]
          simp only [evOp, evOpE, hb]
          rw [loadA_get (H := Hs p) (fun n => ?_), hld]
          · rfl
          · unfold rd
            rw [AH.get_put_new _ (bare_tab _ _), if_pos rfl, hbc]
        have hno : ∀ b' y, ((bare (b + 1)).put b (some (AObj.cells c false))).get b' = some y → y.own = false := by
          intro b' y
          rw [AH.get_put_new _ (bare_tab _ _)]
          split
          · intro e; simp only [Option.some.injEq] at e; subst e; rfl
          · rw [bare_get]; intro e; cases e
        refine quiet_wp hcall hF (h.r.alone hbc) hno (Nat.le_refl _) he' (fun u w' m' k1 k2 k3 k4 k5 k6 k7 k8 k9 => ?_)
        exact hK _ w' m' p _ (h.move hm T ho (by omega) k1 k2 k3 k4 (fun b hb _ => k5 b hb (by omega)) k6 (fun b q e1 e2 => by rw [k5 b e1 (by omega)] at e2; cases e2) (fun _ e _ => by omega)) k9 hlen more
      | call c =>
        exfalso
        rw [hop] at hc
        obtain ⟨callee, args, ts⟩ := c
        cases callee with
        | builtin b => cases b <;> simp [cls] at hc
        | _ => simp [cls] at hc
      | convert s d x => rw [hop] at hc; simp only [cls] at hc; split at hc <;> omega
      | alloc t => rw [hop] at hc; simp only [cls] at hc; split at hc <;> omega
      | _ => rw [hop] at hc; simp [cls] at hc
    · -- a block is made
      obtain ⟨c, hH, hG⟩ := cls2 hc he
      have he' := hG (bare (Hs j).next) rfl
      have hnone : m (Hs j).next = none := h.unm j hlt hj _ (Nat.le_refl _) (by rw [hH]; exact Nat.lt_succ_self _)
      refine quiet_wp (L' := (Hs j).next + 1) hcall hF (h.r.bare (fun b h1 h2 => by have : b = (Hs j).next := by omega
                                                                                    rw [this]; exact hnone)) (fun b vs => by rw [bare_get]; intro e; cases e) (Nat.le_refl _) he' (fun u w' m' k1 k2 k3 k4 k5 k6 k7 k8 k9 => ?_)
      have hgn : ((bare (Hs j).next).add (.cells c true)).get (Hs j).next = some (.cells c true) := by
        rw [AH.get_add]
        exact if_pos rfl
      obtain ⟨q, hq, hor⟩ := k7.dom _ _ hgn
      have hrange : ∀ b, ¬ ((Hs j).next ≤ b ∧ b < (Hs (j + 1)).next) → ¬ ((bare (Hs j).next).next ≤ b ∧ b < ((bare (Hs j).next).add (.cells c true)).next) := by
        intro b hb hb'
        refine hb ⟨hb'.1, ?_⟩
        rw [hH]
        exact hb'.2
      refine hK _ w' m' p _ (h.move hm T ho (by omega) k1 k2 k3 k4 (fun b hb hn => k5 b hb (hrange b hn)) k6 (fun b q' e1 e2 => ?_) (fun _ _ _ => ⟨c, q, hH, hnone, hq, hor⟩)) k9 hlen more
      by_cases hb : b = (Hs j).next
      · subst hb
        rw [hq] at e2
        simp only [Option.some.injEq] at e2
        subst e2
        exact k8 _ ⟨_, _, q, hgn, rfl, hq, rfl⟩
      · rw [k5 b e1 (fun hb' => hb (by
          have h1 : (Hs j).next ≤ b := hb'.1
          have h2 : b < (Hs j).next + 1 := hb'.2
          omega))] at e2
        cases e2
    · -- a writer
      have e := hw3 hc
      subst e
      have hR : R w0 (Hs (p + 1)).next m (Hs p) w := ⟨h.r.below, fun b h1 h2 => h.unm p hlt hj b h1 h2, h.r.bound, h.r.inb, h.r.dom, h.r.inj, h.r.old, h.r.ty⟩
      refine op_wp (Nat.le_refl _) hcall hF hR he (fun u w' m' h1 h2 h3 => ?_)
      exact hK _ w' m' (p + 1) _ (h.write hm T ho h1 h3) ((hF.sub h1.sub).put h2 o.dst) hlen more
end
end Go.Abs
end
section
/- The order of the text stands for all: whole regions. -/
namespace Go.Abs
open Go Go.RowKit

section
variable {P : Program} {call : Nat → List AV → AH → Option (AV × AH)} {ops : List Oper}
variable {w0 : World} {L : Nat}

def Listed (listed : Array Bool) (i : Nat) : Prop := listed.getD i false = true
theorem listed_set {listed : Array Bool} {j : Nat} (h : j < listed.size) : Listed (listed.setIfInBounds j true) = fun i => Listed listed i ∨ i = j := by
  funext i
  unfold Listed
  simp only [Array.getD_eq_getD_getElem?, Array.getElem?_setIfInBounds, eq_iff_iff]
  by_cases e : j = i
  · subst e; simp [h]
  · simp [e, Ne.symm e]

theorem ready_mem {listed : Array Bool} {j : Nat} : j ∈ Region.ready .any ops.toArray listed ↔ ∃ o, ops[j]? = some o ∧ listed.getD j true = false ∧ ∀ i ∈ predsOf o, Listed listed i := by
  unfold Region.ready
  simp only [List.mem_filter, List.mem_range, List.size_toArray, Bool.and_eq_true, Bool.not_eq_true', List.getElem?_toArray]
  have key : ∀ o : Oper, (o.after.all fun e => !Region.binds .any e || listed.getD e.on false) = true ↔ ∀ i ∈ predsOf o, Listed listed i := by
    intro o
    rw [← Array.all_toList, List.all_eq_true]
    unfold predsOf Listed
    constructor
    · intro h i hi
      obtain ⟨e, he, rfl⟩ := List.mem_map.1 hi
      obtain ⟨h1, h2⟩ := List.mem_filter.1 he
      have := h e h1
      simpa [h2] using this
    · intro h e he
      cases hb : Region.binds .any e with
      | false => rfl
      | true =>
        have := h e.on (List.mem_map.2 ⟨e, List.mem_filter.2 ⟨he, hb⟩, rfl⟩)
        simpa using this
  constructor
  · rintro ⟨h1, h2, h3⟩
    have ho : ops[j]? = some ops[j] := List.getElem?_eq_getElem h1
    rw [ho] at h3
    exact ⟨_, ho, h2, (key _).1 (by simpa using h3)⟩
  · rintro ⟨o, ho, h2, h3⟩
    refine ⟨lt_of_get ho, h2, ?_⟩
    rw [ho]
    simpa using (key o).2 h3

variable {α0 : List AV} {H0 : AH} {α' : List AV} {H' : AH} {tr : List Tr} {αs : Nat → List AV} {Hs : Nat → AH} {rn : Nat → Bool} {vs : Nat → AV}
variable {w00 : World} {m0 : M}

theorem any_wp (hcall : CallOK P w0 call) (T : TF P call ops ops tr α0 H0 α' H' αs Hs rn vs) (S : StatOK P ops α0.length) (hreads : readsOK P ops tr H0 H' = true) {Q : Exit → Act → World → Prop}
    (hQ : ∀ a w m, Core P ops Hs rn w0 w00 L m0 H0 (fun i => i < ops.length) m w ops.length → FR m α' a → Q .normal a w) : ∀ (fuel : Nat) (listed : Array Bool) (a : Act) (w : World) (m : M) (p : Nat) (β : List AV),
    listed.size = ops.length → listed.toList.count false ≤ fuel → (∀ j o, ops[j]? = some o → Listed listed j → ∀ i ∈ predsOf o, Listed listed i) → Core P ops Hs rn w0 w00 L m0 H0 (Listed listed) m w p → FR m β a → β.length = α0.length → (∀ t, Last ops α0 vs (Listed listed) t (β.getD t .undef)) →
    wpAny P .any ops.toArray Q fuel listed a w := by
  have hm := hcall.mono
  have fin : ∀ (listed : Array Bool) (a : Act) (w : World) (m : M) (p : Nat) (β : List AV), listed.size = ops.length → Core P ops Hs rn w0 w00 L m0 H0 (Listed listed) m w p → FR m β a → β.length = α0.length → (∀ t, Last ops α0 vs (Listed listed) t (β.getD t .undef)) →
      Region.ready .any ops.toArray listed = [] → Q .normal a w := by
    intro listed a w m p β hs hC hF hβ hl hr
    have hall : ∀ n j, j < n → j < ops.length → Listed listed j := by
      intro n
      induction n with
      | zero => intro j hj; omega
      | succ n ih =>
        intro j hj hjl
        by_cases h : Listed listed j
        · exact h
        · exfalso
          have ho : ops[j]? = some ops[j] := List.getElem?_eq_getElem hjl
          have : j ∈ Region.ready .any ops.toArray listed := by
            refine ready_mem.2 ⟨_, ho, ?_, fun i hi => ?_⟩
            · unfold Listed at h
              simp only [Array.getD_eq_getD_getElem?, Array.getElem?_eq_getElem (by omega : j < listed.size), Option.getD_some, Bool.not_eq_true] at h ⊢
              exact h
            · have := S.s1 j _ ho i hi
              exact ih i (by omega) (by omega)
          rw [hr] at this
          cases this
    have hD : Listed listed = fun i => i < ops.length := by
      funext i
      simp only [eq_iff_iff]
      refine ⟨fun h => ?_, fun h => hall _ i (Nat.lt_succ_self _) h⟩
      rcases Nat.lt_or_ge i ops.length with hlt | hge
      · exact hlt
      · unfold Listed at h
        simp [Array.getD_eq_getD_getElem?, Array.getElem?_eq_none (by omega : listed.size ≤ i)] at h
    obtain ⟨p', hC', hp'⟩ := hC.far hm T _ p rfl
    have : p' = ops.length := by
      rcases hp' with hp' | ⟨o, ho, _, hn⟩
      · exact hp'
      · exact absurd (hall _ p' (Nat.lt_succ_self _) (lt_of_get ho)) hn
    subst this
    rw [hD] at hC'
    refine hQ a w m hC' ?_
    obtain ⟨h1, h2⟩ := run_last T S ops.length (Nat.le_refl _)
    rw [T.aN] at h1 h2
    have : β = α' := by
      refine List.ext_getElem? (fun t => ?_)
      have e := (hl t).unique (h2 t) (fun i x hx _ => by rw [hD])
      rw [List.getD_eq_getElem?_getD, List.getD_eq_getElem?_getD] at e
      rcases Nat.lt_or_ge t α0.length with hlt | hge
      · rw [List.getElem?_eq_getElem (by omega : t < β.length), List.getElem?_eq_getElem (by omega : t < α'.length)] at e ⊢
        simpa using e
      · rw [List.getElem?_eq_none (by omega), List.getElem?_eq_none (by omega)]
    rw [← this]
    exact hF
  intro fuel
  induction fuel with
  | zero =>
    intro listed a w m p β hs hc hcl hC hF hβ hl
    have hr : Region.ready .any ops.toArray listed = [] := by
      rw [List.eq_nil_iff_forall_not_mem]
      intro j hj
      obtain ⟨o, ho, h1, _⟩ := ready_mem.1 hj
      have hz : listed.toList.count false = 0 := by omega
      rw [List.count_eq_zero] at hz
      refine hz ?_
      have hjs : j < listed.size := by rw [hs]; exact lt_of_get ho
      simp only [Array.getD_eq_getD_getElem?, Array.getElem?_eq_getElem hjs, Option.getD_some] at h1
      rw [← h1]
      simp
    exact ⟨hr, fin listed a w m p β hs hC hF hβ hl hr⟩
  | succ fuel ih =>
    intro listed a w m p β hs hc hcl hC hF hβ hl
    refine ⟨fin listed a w m p β hs hC hF hβ hl, fun j hj => ?_⟩
    obtain ⟨o, ho, h1, hp⟩ := ready_mem.1 hj
    have hjs : j < listed.size := by rw [hs]; exact lt_of_get ho
    have hjf : listed[j] = false := by
      simpa only [Array.getD_eq_getD_getElem?, Array.getElem?_eq_getElem hjs, Option.getD_some] using h1
    have hjn : ¬ Listed listed j := by
      unfold Listed
      simp [Array.getD_eq_getD_getElem?, Array.getElem?_eq_getElem hjs, hjf]
    obtain ⟨p', hC', hfar⟩ := hC.far hm T _ p rfl
    have hset := listed_set hjs
    refine step_any hcall T S hreads hC' hfar hcl hF hβ hl ho hjn hp (fun a' w' m' p'' β' k1 k2 k3 k4 => ?_)
    rw [← hset] at k1 k4
    refine ih _ a' w' m' p'' β' (by simp [hs]) ?_ ?_ k1 k2 k3 k4
    · have hj' : j < listed.toList.length := by simpa using hjs
      have e : listed.toList[j] = false := by simpa using hjf
      rw [Array.toList_setIfInBounds, List.count_set hj', e]
      rw [if_pos (by decide), if_neg (by decide)]
      omega
    · intro i x hx hi k hk
      rw [hset] at hi ⊢
      rcases hi with hi | hi
      · exact .inl (hcl i x hx hi k hk)
      · subst hi
        rw [ho] at hx
        simp only [Option.some.injEq] at hx
        subst hx
        exact .inl (hp k hk)

/-- A region whose order is open comes to what the order of the text gives. -/
theorem draw_wp (hmix : P.follows .mixedOrders = true) (hcall : CallOK P w0 call) (he : evDraw P call ops α0 H0 = some (α', H')) (id : Nat) {Q : Exit → Act → World → Prop} {m : M} {a : Act} {w : World} (hL : H'.next ≤ L) (hF : FR m α0 a) (hR : R w0 L m H0 w)
    (hQ : ∀ a' w' m', Step m H0 w m' H' w' → FR m' α' a' → R w0 L m' H' w' → Q .normal a' w') : (Code.region id ops.toArray true).wp P Q a w := by
  have hm := hcall.mono
  unfold evDraw at he
  split at he
  · rename_i tr α2 H2 ht
    split at he
    · rename_i hcnd
      simp only [Option.some.injEq, Prod.mk.injEq] at he
      obtain ⟨rfl, rfl⟩ := he
      obtain ⟨αs, Hs, rn, vs, T⟩ := trace_facts ops ops α0 H0 tr _ _ ht
      have S := stat_of hcnd.1
      have hle := fun k i (hi : i + k ≤ ops.length) => heaps_le hm T k i hi
      refine wp_region_any hmix ?_
      have hR1 : R w0 L m H0 w.drew := hR.drew
      have h0 : ∀ i, i ≤ ops.length → H0.next ≤ (Hs i).next := fun i hi => by
        have := hle i 0 (by omega)
        rwa [Nat.zero_add, T.h0] at this
      have hN : ∀ i, i ≤ ops.length → (Hs i).next ≤ H2.next := fun i hi => by
        have := hle (ops.length - i) i (by omega)
        rwa [show i + (ops.length - i) = ops.length by omega, T.hN] at this
      have hnone : ∀ i, ¬ Listed (Array.replicate ops.toArray.size false) i := by
        intro i h
        unfold Listed at h
        simp only [Array.getD_eq_getD_getElem?, Array.getElem?_replicate] at h
        split at h <;> simp at h
      have hC : Core P ops Hs rn w0 w.drew L m H0 (Listed (Array.replicate ops.toArray.size false)) m w.drew 0 := by
        refine ⟨Nat.zero_le _, fun i o hi => by omega, fun i o _ _ _ => hnone i, ?_, fun i o _ _ _ hd => absurd hd (hnone i), fun i i' o o' q q' _ _ _ _ _ _ hd => absurd hd (hnone i), fun i hi _ b hb1 hb2 => ?_, fun b hb hb2 => ?_, ?_⟩
        · rw [T.h0]
          exact ⟨hR1.below, fun b _ hb => by omega, hR1.bound, hR1.inb, hR1.dom, hR1.inj, hR1.old, hR1.ty⟩
        · have h1 := h0 i (by omega)
          have h2 := hN (i + 1) (by omega)
          exact hR1.fresh b (by omega) (by omega)
        · have h1 := h0 ops.length (Nat.le_refl _)
          exact hR1.fresh b (by omega) hb2
        · rw [T.h0]
          exact ⟨Sub.refl m, fun b hb _ => hb, fun _ _ _ => rfl, fun _ _ ho => ho, fun _ _ hl => hl, Nat.le_refl _, fun _ _ => rfl⟩
      refine any_wp (w00 := w.drew) (m0 := m) (L := L) hcall T S hcnd.2 (fun a' w' m' hC' hF' => ?_) ops.toArray.size _ a w.drew m 0 α0 (by simp) ?_ (fun j o _ hj => absurd hj (hnone j)) hC hF rfl (fun t => .inr ⟨fun i o _ hi => absurd hi (hnone i), rfl⟩)
      · have hr := hC'.r
        have hst := hC'.st
        have htop := hC'.top
        rw [T.hN] at hr hst htop
        refine hQ a' w' m' ((Step.world (Below.refl _ _).drew).trans ?_) hF' ⟨hr.below, fun b hb1 hb2 => htop b hb1 hb2, hr.bound, hr.inb, hr.dom, hr.inj, hr.old, hr.ty⟩
        exact ⟨hst.sub, by have := hN 0 (by omega); rwa [T.h0] at this, hst.dom, hst.keep, hst.owns, hst.live, hst.size, hst.shape⟩
      · exact Nat.le_trans List.count_le_length (by simp)
    · cases he
  · cases he

theorem draw_mono : DrawMono (evDraw P) := by
  intro call hm ops α H α' H' he
  unfold evDraw at he
  split at he
  · rename_i tr α2 H2 ht
    split at he
    · simp only [Option.some.injEq, Prod.mk.injEq] at he
      obtain ⟨rfl, rfl⟩ := he
      obtain ⟨αs, Hs, rn, vs, T⟩ := trace_facts ops ops α H tr _ _ ht
      have := heaps_le hm T ops.length 0 (by omega)
      rwa [Nat.zero_add, T.h0, T.hN] at this
    · cases he
  · cases he

theorem draw_ok (hmix : P.follows .mixedOrders = true) : DrawOK P w0 (evDraw P) :=
  ⟨draw_mono, fun _ hcall _ _ _ _ _ he id _ _ _ _ _ hL hF hR hQ => draw_wp hmix hcall he id hL hF hR hQ⟩
end
end Go.Abs
end
section
/- Calls to whatever depth; how code is walked. -/
namespace Go.Abs
open Go Go.RowKit

abbrev CallF := Nat → List AV → AH → Option (AV × AH)
def CallLe (c c' : CallF) : Prop := ∀ f args H r, c f args H = some r → c' f args H = some r
theorem CallLe.refl (c : CallF) : CallLe c c := fun _ _ _ _ h => h
theorem CallLe.trans {a b c : CallF} (h : CallLe a b) (k : CallLe b c) : CallLe a c := fun f x H r e => k f x H r (h f x H r e)

section
variable {P : Program}

theorem evOp_le {c c' : CallF} (h : CallLe c c') {α : List AV} {o : Op} {H : AH} {r : AV × AH} (he : evOp P c α o H = some r) : evOp P c' α o H = some r := by
  cases o with
  | call q =>
    obtain ⟨callee, args, ts⟩ := q
    cases callee with
    | value f =>
      simp only [evOp, evOpE] at he ⊢
      split at he
      · exact h _ _ _ _ he
      · cases he
    | _ => exact he
  | makeFunc fn first cap => cases fn <;> exact he
  | makeMap t r => cases r <;> exact he
  | _ => exact he
theorem evOps_le {c c' : CallF} (h : CallLe c c') (ops : List Oper) {r : List AV × AH} : ∀ (rest : List Oper) (α : List AV) (H : AH), evOps P c ops rest α H = some r → evOps P c' ops rest α H = some r
  | [], _, _, he => he
  | o :: rest, α, H, he => by
    rw [evOps] at he ⊢
    cases hg : o.guard with
    | none =>
      rw [hg] at he
      simp only at he ⊢
      cases hv : evOp P c α o.op H with
      | none => rw [hv] at he; cases he
      | some q => rw [hv] at he; rw [evOp_le h hv]; exact evOps_le h ops rest _ _ he
    | some g =>
      obtain ⟨g, want⟩ := g
      rw [hg] at he
      simp only at he ⊢
      cases hy : yieldedA ops α g with
      | none => rw [hy] at he; cases he
      | some b =>
        rw [hy] at he
        simp only at he ⊢
        split at he
        · rename_i hb
          rw [if_pos hb]
          cases hv : evOp P c α o.op H with
          | none => rw [hv] at he; cases he
          | some q => rw [hv] at he; rw [evOp_le h hv]; exact evOps_le h ops rest _ _ he
        · rename_i hb
          rw [if_neg hb]
          exact evOps_le h ops rest _ _ he
theorem trace_le {c c' : CallF} (h : CallLe c c') (ops : List Oper) : ∀ (rest : List Oper) (α : List AV) (H : AH) (r : List Tr × List AV × AH), trace P c ops rest α H = some r → trace P c' ops rest α H = some r
  | [], _, _, _, he => he
  | o :: rest, α, H, r, he => by
    rw [trace] at he ⊢
    split at he
    · cases he
    · cases hv : evOp P c α o.op H with
      | none => rw [hv] at he; cases he
      | some q =>
        rw [hv] at he
        rw [evOp_le h hv]
        simp only at he ⊢
        cases ht : trace P c ops rest (setD α o.dst q.1) q.2 with
        | none => rw [ht] at he; cases he
        | some t => rw [ht] at he; rw [trace_le h ops rest _ _ _ ht]; exact he
    · cases ht : trace P c ops rest (setD α o.dst (.tuple [])) H with
      | none => rw [ht] at he; cases he
      | some t => rw [ht] at he; rw [trace_le h ops rest _ _ _ ht]; exact he
theorem evDraw_le {c c' : CallF} (h : CallLe c c') {ops : List Oper} {α : List AV} {H : AH} {r : List AV × AH} (he : evDraw P c ops α H = some r) : evDraw P c' ops α H = some r := by
  unfold evDraw at he ⊢
  cases ht : trace P c ops ops α H with
  | none => rw [ht] at he; cases he
  | some t => rw [ht] at he; rw [trace_le h ops ops _ _ _ ht]; exact he

theorem evCode_le {c c' : CallF} (h : CallLe c c') : ∀ (n k : Nat) (x : Code) (α : List AV) (H : AH) (r : Ex × List AV × AH), evCode P c (evDraw P) n x α H = some r → evCode P c' (evDraw P) (n + k) x α H = some r
  | 0, k, x, α, H, r, he => by simp [evCode] at he
  | n + 1, k, x, α, H, r, he => by
    have ih := evCode_le h n k
    rw [show n + 1 + k = (n + k) + 1 by omega]
    cases x with
    | region id ops free =>
      simp only [evCode, Option.map_eq_some_iff] at he ⊢
      obtain ⟨q, hq, rfl⟩ := he
      refine ⟨q, ?_, rfl⟩
      split at hq
      · rename_i hf; rw [if_pos hf]; exact evDraw_le h hq
      · rename_i hf; rw [if_neg hf]; exact evOps_le h _ _ _ _ hq
    | seq a b =>
      simp only [evCode] at he ⊢
      cases hx : evCode P c (evDraw P) n a α H with
      | none => rw [hx] at he; cases he
      | some q =>
        obtain ⟨ex, α1, H1⟩ := q
        rw [hx] at he
        rw [ih _ _ _ _ hx]
        cases ex with
        | normal => exact ih _ _ _ _ he
        | _ => exact he
    | cond o a b =>
      simp only [evCode] at he ⊢
      split at he
      · exact ih _ _ _ _ he
      · cases he
    | block id a =>
      simp only [evCode] at he ⊢
      cases hx : evCode P c (evDraw P) n a α H with
      | none => rw [hx] at he; cases he
      | some q =>
        obtain ⟨ex, α1, H1⟩ := q
        rw [hx] at he
        rw [ih _ _ _ _ hx]
        exact he
    | loop a =>
      simp only [evCode] at he ⊢
      cases hx : evCode P c (evDraw P) n a α H with
      | none => rw [hx] at he; cases he
      | some q =>
        obtain ⟨ex, α1, H1⟩ := q
        rw [hx] at he
        rw [ih _ _ _ _ hx]
        cases ex with
        | normal => exact ih _ _ _ _ he
        | _ => exact he
    | _ => exact he

theorem evCall_succ {ext : Nat → Option (List AV → AH → Option (AV × AH))} : ∀ n, CallLe (evCall P ext (evDraw P) n) (evCall P ext (evDraw P) (n + 1))
  | 0 => fun f args H r h => by simp [evCall] at h
  | n + 1 => by
    have ih : CallLe (evCall P ext (evDraw P) n) (evCall P ext (evDraw P) (n + 1)) := evCall_succ n
    intro f args H r h
    rw [evCall] at h ⊢
    cases he : ext f with
    | some c => rw [he] at h; exact h
    | none =>
      rw [he] at h
      simp only at h ⊢
      cases hf : P.funcs[f]? with
      | none => rw [hf] at h; cases h
      | some fn =>
        rw [hf] at h
        simp only at h ⊢
        cases hb : fn.body with
        | none => rw [hb] at h; cases h
        | some c =>
          rw [hb] at h
          simp only at h ⊢
          cases hc : evCode P (evCall P ext (evDraw P) n) (evDraw P) n c (args ++ List.replicate (fn.ntmps - args.length) .undef) H with
          | none => rw [hc] at h; cases h
          | some q => rw [hc] at h; rw [evCode_le ih n 1 _ _ _ _ hc]; exact h
theorem evCall_le {ext : Nat → Option (List AV → AH → Option (AV × AH))} : ∀ k n, CallLe (evCall P ext (evDraw P) n) (evCall P ext (evDraw P) (n + k))
  | 0, n => CallLe.refl _
  | k + 1, n => (evCall_le k n).trans (evCall_succ (n + k))
theorem evCall_le' {ext : Nat → Option (List AV → AH → Option (AV × AH))} {n m : Nat} (h : n ≤ m) : CallLe (evCall P ext (evDraw P) n) (evCall P ext (evDraw P) m) := by
  have := evCall_le (P := P) (ext := ext) (m - n) n
  rwa [show n + (m - n) = m by omega] at this

/-- A call, to whatever depth it takes. -/
noncomputable def lim (P : Program) (ext : Nat → Option (List AV → AH → Option (AV × AH))) : CallF := fun f args H =>
  open Classical in if h : ∃ r n, evCall P ext (evDraw P) n f args H = some r then some h.choose else none

variable {ext : Nat → Option (List AV → AH → Option (AV × AH))}
theorem lim_of {n f : Nat} {args : List AV} {H : AH} {r : AV × AH} (h : evCall P ext (evDraw P) n f args H = some r) : lim P ext f args H = some r := by
  unfold lim
  have hx : ∃ r n, evCall P ext (evDraw P) n f args H = some r := ⟨r, n, h⟩
  rw [dif_pos hx]
  obtain ⟨m, hm⟩ := hx.choose_spec
  have h1 := evCall_le' (Nat.le_max_left n m) _ _ _ _ h
  have h2 := evCall_le' (Nat.le_max_right n m) _ _ _ _ hm
  rw [h1] at h2
  exact h2.symm
theorem lim_to {f : Nat} {args : List AV} {H : AH} {r : AV × AH} (h : lim P ext f args H = some r) : ∃ n, evCall P ext (evDraw P) n f args H = some r := by
  unfold lim at h
  split at h
  · rename_i hx
    simp only [Option.some.injEq] at h
    subst h
    exact hx.choose_spec
  · cases h

/-! ### What is done with calls to whatever depth is done with calls to some depth -/
theorem evOp_cont {α : List AV} {o : Op} {H : AH} {r : AV × AH} (he : evOp P (lim P ext) α o H = some r) : ∃ n, evOp P (evCall P ext (evDraw P) n) α o H = some r := by
  cases o with
  | call q =>
    obtain ⟨callee, args, ts⟩ := q
    cases callee with
    | value f =>
      simp only [evOp, evOpE] at he ⊢
      split at he
      · exact lim_to he
      · cases he
    | _ => exact ⟨0, he⟩
  | makeFunc fn first cap => cases fn <;> exact ⟨0, he⟩
  | makeMap t r => cases r <;> exact ⟨0, he⟩
  | _ => exact ⟨0, he⟩
theorem trace_cont (ops : List Oper) : ∀ (rest : List Oper) (α : List AV) (H : AH) (r : List Tr × List AV × AH), trace P (lim P ext) ops rest α H = some r → ∃ n, trace P (evCall P ext (evDraw P) n) ops rest α H = some r
  | [], _, _, _, he => ⟨0, he⟩
  | o :: rest, α, H, r, he => by
    rw [trace] at he
    split at he
    · cases he
    · rename_i hg
      cases hv : evOp P (lim P ext) α o.op H with
      | none => rw [hv] at he; cases he
      | some q =>
        rw [hv] at he
        simp only at he
        cases ht : trace P (lim P ext) ops rest (setD α o.dst q.1) q.2 with
        | none => rw [ht] at he; cases he
        | some t =>
          rw [ht] at he
          obtain ⟨n1, h1⟩ := evOp_cont hv
          obtain ⟨n2, h2⟩ := trace_cont ops rest _ _ _ ht
          refine ⟨max n1 n2, ?_⟩
          rw [trace, hg]
          simp only
          rw [evOp_le (evCall_le' (Nat.le_max_left n1 n2)) h1]
          simp only
          rw [trace_le (evCall_le' (Nat.le_max_right n1 n2)) ops rest _ _ _ h2]
          exact he
    · rename_i hg
      cases ht : trace P (lim P ext) ops rest (setD α o.dst (.tuple [])) H with
      | none => rw [ht] at he; cases he
      | some t =>
        rw [ht] at he
        obtain ⟨n2, h2⟩ := trace_cont ops rest _ _ _ ht
        refine ⟨n2, ?_⟩
        rw [trace, hg]
        simp only
        rw [h2]
        exact he
theorem evDraw_cont {ops : List Oper} {α : List AV} {H : AH} {r : List AV × AH} (he : evDraw P (lim P ext) ops α H = some r) : ∃ n, evDraw P (evCall P ext (evDraw P) n) ops α H = some r := by
  unfold evDraw at he
  cases ht : trace P (lim P ext) ops ops α H with
  | none => rw [ht] at he; cases he
  | some t =>
    rw [ht] at he
    obtain ⟨n, hn⟩ := trace_cont ops ops _ _ _ ht
    refine ⟨n, ?_⟩
    rw [evDraw, hn]
    exact he
theorem evOps_cont (ops : List Oper) {r : List AV × AH} : ∀ (rest : List Oper) (α : List AV) (H : AH), evOps P (lim P ext) ops rest α H = some r → ∃ n, evOps P (evCall P ext (evDraw P) n) ops rest α H = some r
  | [], _, _, he => ⟨0, he⟩
  | o :: rest, α, H, he => by
    rw [evOps] at he
    have run : ∀ {v : AV × AH} (g : ∀ c : CallF, evOp P c α o.op H = some v → evOps P c ops (o :: rest) α H = evOps P c ops rest (match o.dst with | some d => α.set d v.1 | none => α) v.2), evOp P (lim P ext) α o.op H = some v → evOps P (lim P ext) ops rest (match o.dst with | some d => α.set d v.1 | none => α) v.2 = some r →
        ∃ n, evOps P (evCall P ext (evDraw P) n) ops (o :: rest) α H = some r := by
      intro v g hv ht
      obtain ⟨n1, h1⟩ := evOp_cont hv
      obtain ⟨n2, h2⟩ := evOps_cont ops rest _ _ ht
      refine ⟨max n1 n2, ?_⟩
      rw [g _ (evOp_le (evCall_le' (Nat.le_max_left n1 n2)) h1)]
      exact evOps_le (evCall_le' (Nat.le_max_right n1 n2)) ops rest _ _ h2
    cases hg : o.guard with
    | none =>
      rw [hg] at he
      simp only at he
      cases hv : evOp P (lim P ext) α o.op H with
      | none => rw [hv] at he; cases he
      | some q =>
        rw [hv] at he
        exact run (fun c hc => by rw [evOps, hg]; simp only; rw [hc]; rfl) hv he
    | some g =>
      obtain ⟨g, want⟩ := g
      rw [hg] at he
      simp only at he
      cases hy : yieldedA ops α g with
      | none => rw [hy] at he; cases he
      | some b =>
        rw [hy] at he
        simp only at he
        split at he
        · rename_i hb
          cases hv : evOp P (lim P ext) α o.op H with
          | none => rw [hv] at he; cases he
          | some q =>
            rw [hv] at he
            exact run (fun c hc => by rw [evOps, hg]; simp only; rw [hy]; simp only; rw [if_pos hb, hc]; rfl) hv he
        · rename_i hb
          obtain ⟨n2, h2⟩ := evOps_cont ops rest _ _ he
          refine ⟨n2, ?_⟩
          rw [evOps, hg]
          simp only
          rw [hy]
          simp only
          rw [if_neg hb]
          exact h2
theorem evCode_cont : ∀ (n : Nat) (x : Code) (α : List AV) (H : AH) (r : Ex × List AV × AH), evCode P (lim P ext) (evDraw P) n x α H = some r → ∃ k, evCode P (evCall P ext (evDraw P) k) (evDraw P) n x α H = some r
  | 0, x, α, H, r, he => by simp [evCode] at he
  | n + 1, x, α, H, r, he => by
    have ih := evCode_cont n
    cases x with
    | region id ops free =>
      simp only [evCode, Option.map_eq_some_iff] at he ⊢
      obtain ⟨q, hq, rfl⟩ := he
      split at hq
      · obtain ⟨k, hk⟩ := evDraw_cont hq
        rename_i hf
        exact ⟨k, q, by rw [if_pos hf]; exact hk, rfl⟩
      · obtain ⟨k, hk⟩ := evOps_cont _ _ _ _ hq
        rename_i hf
        exact ⟨k, q, by rw [if_neg hf]; exact hk, rfl⟩
    | seq a b =>
      simp only [evCode] at he ⊢
      cases hx : evCode P (lim P ext) (evDraw P) n a α H with
      | none => rw [hx] at he; cases he
      | some q =>
        obtain ⟨ex, α1, H1⟩ := q
        rw [hx] at he
        obtain ⟨k1, h1⟩ := ih _ _ _ _ hx
        cases ex with
        | normal =>
          obtain ⟨k2, h2⟩ := ih _ _ _ _ he
          refine ⟨max k1 k2, ?_⟩
          have e1 := evCode_le (evCall_le' (Nat.le_max_left k1 k2)) n 0 _ _ _ _ h1
          have e2 := evCode_le (evCall_le' (Nat.le_max_right k1 k2)) n 0 _ _ _ _ h2
          rw [Nat.add_zero] at e1 e2
          rw [e1]
          exact e2
        | _ => exact ⟨k1, by rw [h1]; exact he⟩
    | cond o a b =>
      simp only [evCode] at he ⊢
      split at he
      · exact ih _ _ _ _ he
      · cases he
    | block id a =>
      simp only [evCode] at he ⊢
      cases hx : evCode P (lim P ext) (evDraw P) n a α H with
      | none => rw [hx] at he; cases he
      | some q =>
        obtain ⟨k1, h1⟩ := ih _ _ _ _ hx
        rw [hx] at he
        exact ⟨k1, by rw [h1]; exact he⟩
    | loop a =>
      simp only [evCode] at he ⊢
      cases hx : evCode P (lim P ext) (evDraw P) n a α H with
      | none => rw [hx] at he; cases he
      | some q =>
        obtain ⟨ex, α1, H1⟩ := q
        rw [hx] at he
        obtain ⟨k1, h1⟩ := ih _ _ _ _ hx
        cases ex with
        | normal =>
          obtain ⟨k2, h2⟩ := ih _ _ _ _ he
          refine ⟨max k1 k2, ?_⟩
          have e1 := evCode_le (evCall_le' (Nat.le_max_left k1 k2)) n 0 _ _ _ _ h1
          have e2 := evCode_le (evCall_le' (Nat.le_max_right k1 k2)) n 0 _ _ _ _ h2
          rw [Nat.add_zero] at e1 e2
          rw [e1]
          exact e2
        | _ => exact ⟨k1, by rw [h1]; exact he⟩
    | _ => exact ⟨0, he⟩

/-- A function's body is walked. -/
theorem lim_body {f : Nat} {fn : Func} {c : Code} (hx : ext f = none) (hf : P.funcs[f]? = some fn) (hb : fn.body = some c) {args : List AV} {H : AH} {n : Nat} {ex : Ex} {α : List AV} {H' : AH} {l : List AV}
    (h : evCode P (lim P ext) (evDraw P) n c (args ++ List.replicate (fn.ntmps - args.length) .undef) H = some (ex, α, H')) (he : ex = .normal ∨ ex = .ret) (hl : allA (resA P H' α) fn.results.toList = some l) : lim P ext f args H = some (oneOrAll l, H') := by
  obtain ⟨k, hk⟩ := evCode_cont _ _ _ _ _ h
  refine lim_of (n := max k n + 1) ?_
  rw [evCall, hx]
  simp only
  rw [hf]
  simp only
  rw [hb]
  simp only
  have e1 := evCode_le (evCall_le' (ext := ext) (P := P) (Nat.le_max_left k n)) n (max k n - n) _ _ _ _ hk
  rw [show n + (max k n - n) = max k n by omega] at e1
  rw [e1]
  rcases he with rfl | rfl
  · simp only [hl]
  · simp only [hl]

theorem lim_ext {f : Nat} {c : List AV → AH → Option (AV × AH)} (hx : ext f = some c) {args : List AV} {H : AH} {r : AV × AH} (h : c args H = some r) : lim P ext f args H = some r := by
  refine lim_of (n := 1) ?_
  rw [evCall, hx]
  exact h

theorem lim_ok {w0 : World} (hmix : P.follows .mixedOrders = true) (hP : Prog P) (hext : ExtOK P w0 ext) : CallOK P w0 (lim P ext) := by
  intro f args H v H' h
  obtain ⟨n, hn⟩ := lim_to h
  exact call_ok hP hext (draw_ok hmix) n f args H v H' hn
end
end Go.Abs
end
section
/- How code is walked: frames as functions. -/
namespace Go.Abs
open Go Go.RowKit

abbrev Env := Nat → AV
def upd (ρ : Env) (d : Nat) (v : AV) : Env := fun t => if t = d then v else ρ t
theorem upd_apply (ρ : Env) (d : Nat) (v : AV) (t : Nat) : upd ρ d v t = if t = d then v else ρ t := rfl
def updD (ρ : Env) (d : Option Nat) (v : AV) : Env := match d with | some d => upd ρ d v | none => ρ
theorem updD_some (ρ : Env) (d : Nat) (v : AV) : updD ρ (some d) v = upd ρ d v := rfl
theorem updD_none (ρ : Env) (v : AV) : updD ρ none v = ρ := rfl
def envOf (α : List AV) : Env := fun t => α.getD t .undef
def evalE (ρ : Env) : Operand → AV
  | .tmp t => ρ t
  | .const v => evalO [] (.const v)
  | x => evalO [] x
theorem evalE_tmp (ρ : Env) (t : Nat) : evalE ρ (.tmp t) = ρ t := rfl
theorem evalE_of (α : List AV) (x : Operand) : evalE (envOf α) x = evalO α x := by
  cases x <;> rfl

def holds {α : Type} (r : Option (α × AH)) (K : α → AH → Prop) : Prop := match r with
  | some (v, H) => K v H
  | none => False
theorem holds_some {α : Type} (v : α) (H : AH) (K : α → AH → Prop) : holds (some (v, H)) K = K v H := rfl
theorem holds_congr {α : Type} {r r' : Option (α × AH)} {K : α → AH → Prop} (h : r = r') : holds r K = holds r' K := by rw [h]
theorem holds_iff {α : Type} {r : Option (α × AH)} {K : α → AH → Prop} : holds r K ↔ ∃ v H, r = some (v, H) ∧ K v H := by
  cases r with
  | none => simp [holds]
  | some q =>
    obtain ⟨v, H⟩ := q
    constructor
    · intro h; exact ⟨v, H, rfl, h⟩
    · rintro ⟨v', H', h1, h2⟩
      cases h1
      exact h2

/-- The operations of a region, one after the other. -/
def runE (P : Program) (call : CallF) (ops : List Oper) : List Oper → Env → AH → (Env → AH → Prop) → Prop
  | [], ρ, H, K => K ρ H
  | o :: rest, ρ, H, K => match o.guard with
    | none => holds (evOpE P call (evalE ρ) o.op H) fun v H => runE P call ops rest (updD ρ o.dst v) H K
    | some (j, want) => match (ops[j]?).bind (·.dst) with
      | some d => match ρ d with
        | .bool b => if b = want then holds (evOpE P call (evalE ρ) o.op H) fun v H => runE P call ops rest (updD ρ o.dst v) H K
          else runE P call ops rest (updD ρ o.dst (.tuple [])) H K
        | _ => False
      | none => False

def inFrame (N : Nat) (ops : List Oper) : Bool := ops.all fun o => match o.dst with | some d => decide (d < N) | none => true

theorem envOf_setD {α : List AV} {d : Option Nat} (h : ∀ k, d = some k → k < α.length) (v : AV) : envOf (setD α d v) = updD (envOf α) d v := by
  cases d with
  | none => rfl
  | some k =>
    funext t
    exact getD_setD (h k rfl) v t

theorem setD_match (α : List AV) (d : Option Nat) (v : AV) : (match d with | some d => α.set d v | none => α) = setD α d v := rfl

section
variable {P : Program}
theorem evOp_env {call : CallF} {α : List AV} {o : Op} {H : AH} : evOp P call α o H = evOpE P call (evalE (envOf α)) o H := by
  have : evalE (envOf α) = evalO α := funext (evalE_of α)
  rw [this]
  rfl

theorem runE_sound {call : CallF} (ops : List Oper) {N : Nat} {K : Env → AH → Prop} : ∀ (rest : List Oper), inFrame N rest = true → ∀ (α : List AV) (H : AH), α.length = N → runE P call ops rest (envOf α) H K → ∃ α' H', evOps P call ops rest α H = some (α', H') ∧ α'.length = N ∧ K (envOf α') H'
  | [], _, α, H, hN, h => ⟨α, H, rfl, hN, h⟩
  | o :: rest, hf, α, H, hN, h => by
    simp only [inFrame, List.all_cons, Bool.and_eq_true] at hf
    have hd : ∀ k, o.dst = some k → k < α.length := by
      intro k hk
      have := hf.1
      rw [hk] at this
      rw [hN]
      simpa using this
    have next : ∀ (v : AV) (H2 : AH), runE P call ops rest (updD (envOf α) o.dst v) H2 K → ∃ α' H', evOps P call ops rest (setD α o.dst v) H2 = some (α', H') ∧ α'.length = N ∧ K (envOf α') H' := by
      intro v H2 h2
      rw [← envOf_setD hd] at h2
      exact runE_sound ops rest hf.2 _ H2 (by rw [length_setD, hN]) h2
    rw [runE] at h
    rw [evOps]
    cases hg : o.guard with
    | none =>
      rw [hg] at h
      simp only at h ⊢
      rw [holds_iff] at h
      obtain ⟨v, H2, h1, h2⟩ := h
      rw [evOp_env, h1]
      exact next v H2 h2
    | some g =>
      obtain ⟨g, want⟩ := g
      rw [hg] at h
      simp only at h ⊢
      unfold yieldedA
      cases hb : (ops[g]?).bind (·.dst) with
      | none => rw [hb] at h; exact h.elim
      | some d =>
        rw [hb] at h
        simp only at h ⊢
        split at h
        · rename_i b hv
          have : α[d]? = some (.bool b) := by
            unfold envOf at hv
            rw [List.getD_eq_getElem?_getD] at hv
            cases hq : α[d]? with
            | none => rw [hq] at hv; cases hv
            | some x => rw [hq] at hv; simp only [Option.getD_some] at hv; rw [hv]
          rw [this]
          simp only
          split at h
          · rename_i hbw
            rw [if_pos (by rw [hbw])]
            rw [holds_iff] at h
            obtain ⟨v, H2, h1, h2⟩ := h
            rw [evOp_env, h1]
            exact next v H2 h2
          · rename_i hbw
            rw [if_neg (fun e => hbw (Option.some.inj e))]
            exact next _ H h
        · exact h.elim

variable {ext : Nat → Option (List AV → AH → Option (AV × AH))}
/-- Code, from a frame that looks so, comes to an end that is so. -/
def V (P : Program) (ext : Nat → Option (List AV → AH → Option (AV × AH))) (N : Nat) (c : Code) (ρ : Env) (H : AH) (K : Ex → Env → AH → Prop) : Prop :=
  ∀ α, α.length = N → envOf α = ρ → ∃ n ex α' H', evCode P (lim P ext) (evDraw P) n c α H = some (ex, α', H') ∧ α'.length = N ∧ K ex (envOf α') H'

variable {N : Nat} {ρ : Env} {H : AH} {K : Ex → Env → AH → Prop}
theorem V_skip (h : K .normal ρ H) : V P ext N .skip ρ H K := fun α hN he => ⟨1, _, α, H, rfl, hN, by rw [he]; exact h⟩
theorem V_exit {id : Nat} (h : K (.exit id) ρ H) : V P ext N (.exit id) ρ H K := fun α hN he => ⟨1, _, α, H, rfl, hN, by rw [he]; exact h⟩
theorem V_ret (h : K .ret ρ H) : V P ext N .ret ρ H K := fun α hN he => ⟨1, _, α, H, rfl, hN, by rw [he]; exact h⟩
theorem V_region {id : Nat} {ops : Array Oper} (hf : inFrame N ops.toList = true) (h : runE P (lim P ext) ops.toList ops.toList ρ H (K .normal)) : V P ext N (.region id ops false) ρ H K := by
  intro α hN he
  subst he
  obtain ⟨α', H', h1, h2, h3⟩ := runE_sound ops.toList ops.toList hf α H hN h
  exact ⟨1, .normal, α', H', by simp [evCode, h1], h2, h3⟩
theorem V_draw {id : Nat} {ops : Array Oper} (h : ∀ α, α.length = N → envOf α = ρ → ∃ α' H', evDraw P (lim P ext) ops.toList α H = some (α', H') ∧ α'.length = N ∧ K .normal (envOf α') H') : V P ext N (.region id ops true) ρ H K := by
  intro α hN he
  obtain ⟨α', H', h1, h2, h3⟩ := h α hN he
  exact ⟨1, .normal, α', H', by simp [evCode, h1], h2, h3⟩
theorem V_cond {x : Operand} {b : Bool} {c d : Code} (hb : evalE ρ x = .bool b) (h : V P ext N (if b then c else d) ρ H K) : V P ext N (.cond x c d) ρ H K := by
  intro α hN he
  obtain ⟨n, ex, α', H', h1, h2⟩ := h α hN he
  refine ⟨n + 1, ex, α', H', ?_, h2⟩
  have : evalO α x = .bool b := by rw [← evalE_of, he, hb]
  simp only [evCode, this]
  exact h1
theorem V_seq {c d : Code} (h : V P ext N c ρ H (fun ex ρ H => match ex with | .normal => V P ext N d ρ H K | e => K e ρ H)) : V P ext N (.seq c d) ρ H K := by
  intro α hN he
  obtain ⟨n, ex, α1, H1, h1, h2, h3⟩ := h α hN he
  have fuel := fun (a b : Nat) x α H r (h : evCode P (lim P ext) (evDraw P) a x α H = some r) => evCode_le (CallLe.refl (lim P ext)) a b x α H r h
  cases ex with
  | normal =>
    obtain ⟨k, ex, α2, H2, g1, g2, g3⟩ := h3 α1 h2 rfl
    refine ⟨max n k + 1, ex, α2, H2, ?_, g2, g3⟩
    have e1 := fuel n (max n k - n) _ _ _ _ h1
    have e2 := fuel k (max n k - k) _ _ _ _ g1
    rw [show n + (max n k - n) = max n k by omega] at e1
    rw [show k + (max n k - k) = max n k by omega] at e2
    simp only [evCode, e1]
    exact e2
  | exit id => exact ⟨n + 1, _, α1, H1, by simp only [evCode, h1], h2, h3⟩
  | ret => exact ⟨n + 1, _, α1, H1, by simp only [evCode, h1], h2, h3⟩
theorem V_block {id : Nat} {c : Code} (h : V P ext N c ρ H (fun ex ρ H => match ex with | .exit k => K (if k = id then .normal else .exit k) ρ H | e => K e ρ H)) : V P ext N (.block id c) ρ H K := by
  intro α hN he
  obtain ⟨n, ex, α1, H1, h1, h2, h3⟩ := h α hN he
  cases ex with
  | normal => exact ⟨n + 1, _, α1, H1, by simp only [evCode, h1], h2, h3⟩
  | exit k => exact ⟨n + 1, _, α1, H1, by simp only [evCode, h1], h2, h3⟩
  | ret => exact ⟨n + 1, _, α1, H1, by simp only [evCode, h1], h2, h3⟩
theorem V_loop {c : Code} (h : V P ext N c ρ H (fun ex ρ H => match ex with | .normal => V P ext N (.loop c) ρ H K | e => K e ρ H)) : V P ext N (.loop c) ρ H K := by
  intro α hN he
  obtain ⟨n, ex, α1, H1, h1, h2, h3⟩ := h α hN he
  have fuel := fun (a b : Nat) x α H r (h : evCode P (lim P ext) (evDraw P) a x α H = some r) => evCode_le (CallLe.refl (lim P ext)) a b x α H r h
  cases ex with
  | normal =>
    obtain ⟨k, ex, α2, H2, g1, g2, g3⟩ := h3 α1 h2 rfl
    refine ⟨max n k + 1, ex, α2, H2, ?_, g2, g3⟩
    have e1 := fuel n (max n k - n) _ _ _ _ h1
    have e2 := fuel k (max n k - k) _ _ _ _ g1
    rw [show n + (max n k - n) = max n k by omega] at e1
    rw [show k + (max n k - k) = max n k by omega] at e2
    simp only [evCode, e1]
    exact e2
  | exit id => exact ⟨n + 1, _, α1, H1, by simp only [evCode, h1], h2, h3⟩
  | ret => exact ⟨n + 1, _, α1, H1, by simp only [evCode, h1], h2, h3⟩
theorem V_mono {c : Code} {K' : Ex → Env → AH → Prop} (h : V P ext N c ρ H K') (hk : ∀ ex ρ H, K' ex ρ H → K ex ρ H) : V P ext N c ρ H K := by
  intro α hN he
  obtain ⟨n, ex, α1, H1, h1, h2, h3⟩ := h α hN he
  exact ⟨n, ex, α1, H1, h1, h2, hk _ _ _ h3⟩

/-- What a result is, from a frame. -/
def resE (P : Program) (H : AH) (ρ : Env) : ResultVar → Option AV
  | .tmp t => some (ρ t)
  | .cell a t => match ρ a with
    | .ptr b off => loadA P t H b off
    | _ => none
theorem resE_of (α : List AV) : resE P H (envOf α) = resA P H α := by
  funext x
  cases x <;> rfl
/-- A function is walked. -/
theorem V_call {f : Nat} {fn : Func} {c : Code} (hx : ext f = none) (hf : P.funcs[f]? = some fn) (hb : fn.body = some c) {args : List AV} (hn : args.length ≤ fn.ntmps) {Q : AV → AH → Prop}
    (h : V P ext fn.ntmps c (fun t => args.getD t .undef) H (fun ex ρ H' => (ex = .normal ∨ ex = .ret) ∧ ∃ l, allA (resE P H' ρ) fn.results.toList = some l ∧ Q (oneOrAll l) H')) : ∃ v H', lim P ext f args H = some (v, H') ∧ Q v H' := by
  obtain ⟨n, ex, α', H', h1, h2, h3, l, h4, h5⟩ := h (args ++ List.replicate (fn.ntmps - args.length) .undef) (by simp; omega) (by
    funext t
    unfold envOf
    rw [List.getD_eq_getElem?_getD, List.getD_eq_getElem?_getD, List.getElem?_append]
    split
    · rfl
    · rename_i hge
      have e1 : args[t]? = none := List.getElem?_eq_none (by omega)
      rw [e1, List.getElem?_replicate]
      split <;> rfl)
  rw [resE_of] at h4
  exact ⟨_, H', lim_body hx hf hb h1 h3 h4, h5⟩
end
end Go.Abs
end
section
/- A second evaluator: slices that nobody writes stand for themselves. -/
namespace Go.Vw
open Go Go.RowKit Go.Abs

/-! ### Values -/
inductive V where
  | undef
  | int (k : IntKind) (n : Int)
  | bool (b : Bool)
  | str (s : List UInt8)
  | agg (vs : List V)
  | tuple (vs : List V)
  | ptr (o off : Nat)
  /-- a place in cells that nobody writes -/
  | ro (cells : List V) (off : Nat)
  | nilp
  /-- a slice that nobody writes; `own`: it may be appended to -/
  | vec (own : Bool) (els : List (List V))
  /-- a slice of an object -/
  | sl (o off len : Nat) (cap : Option Nat) (esz : Nat)
  | func (f : Nat) (first cap : List V)
  | nilf
  | map (o : Nat)
  | nilm
  deriving Inhabited

def V.cells : V → List V
  | .agg vs => vs
  | v => [v]
def V.isCell : V → Bool
  | .undef | .agg _ | .tuple _ => false
  | _ => true
def V.isVal : V → Bool
  | .undef | .tuple _ => false
  | .agg vs => vs.all V.isCell
  | _ => true
def V.strip1 : V → V
  | .vec _ els => .vec false els
  | v => v
/-- A copy: it may not be appended to. -/
def V.strip : V → V
  | .agg vs => .agg (vs.map V.strip1)
  | v => v.strip1

mutual
/-- All objects that a value leads to have numbers below this one. -/
def V.low (n : Nat) : V → Bool
  | .ptr o _ => decide (o < n)
  | .sl o _ _ _ _ => decide (o < n)
  | .map o => decide (o < n)
  | .agg vs => V.lows n vs
  | .tuple vs => V.lows n vs
  | .ro vs _ => V.lows n vs
  | .func _ a b => V.lows n a && V.lows n b
  | .vec _ els => V.lowss n els
  | _ => true
def V.lows (n : Nat) : List V → Bool
  | [] => true
  | v :: r => V.low n v && V.lows n r
def V.lowss (n : Nat) : List (List V) → Bool
  | [] => true
  | v :: r => V.lows n v && V.lowss n r
end

def ofValV : Value → V
  | .int k n => .int k n
  | .bool b => .bool b
  | .string s => .str s.data.toList
  | .slice none 0 0 => .vec true []
  | .pointer none => .nilp
  | .nilFunc => .nilf
  | .map none => .nilm
  | _ => .undef
def ofConstV : Value → V
  | .agg cs => .agg (cs.toList.map ofValV)
  | v => ofValV v

/-! ### The store -/
inductive VObj where
  | cells (vs : List V)
  | amap (es : List (V × V))
  /-- a builder that holds these bytes; t: its block's type, u: its bytes' type -/
  | bld (t u : TypeId) (s : List UInt8)
  | dead
/-- Newest first. An object's number: how many there were ahead of it. -/
structure St where
  objs : List VObj
  pin : Nat
def getO : List VObj → Nat → Option VObj
  | [], _ => none
  | x :: r, k => if k = r.length then some x else getO r k
def putO : List VObj → Nat → VObj → List VObj
  | [], _, _ => []
  | x :: r, k, y => if k = r.length then y :: r else x :: putO r k y
def trimO (n : Nat) : List VObj → List VObj
  | [] => []
  | x :: r => if r.length < n then x :: r else trimO n r
def St.size (σ : St) : Nat := σ.objs.length
def St.get (σ : St) (o : Nat) : Option VObj := getO σ.objs o
def St.put (σ : St) (o : Nat) (x : VObj) : St := ⟨putO σ.objs o x, σ.pin⟩
def St.push (σ : St) (x : VObj) : St := ⟨x :: σ.objs, σ.pin⟩
def St.trim (σ : St) (n : Nat) : St := ⟨trimO n σ.objs, σ.pin⟩

theorem length_putO : ∀ (l : List VObj) (k : Nat) (y : VObj), (putO l k y).length = l.length
  | [], _, _ => rfl
  | x :: r, k, y => by
    rw [putO]; split
    · rfl
    · simp [length_putO r k y]
theorem getO_lt : ∀ {l : List VObj} {k : Nat} {x : VObj}, getO l k = some x → k < l.length
  | [], k, x, h => by simp [getO] at h
  | y :: r, k, x, h => by
    rw [getO] at h
    split at h
    · simp; omega
    · have := getO_lt h; simp; omega
theorem getO_some : ∀ {l : List VObj} {k : Nat}, k < l.length → ∃ x, getO l k = some x
  | [], k, h => by simp at h
  | y :: r, k, h => by
    rw [getO]
    split
    · exact ⟨_, rfl⟩
    · exact getO_some (by simp at h; omega)
theorem getO_putO : ∀ (l : List VObj) (k : Nat) (y : VObj) (j : Nat), getO (putO l k y) j = if j = k then (getO l k).map fun _ => y else getO l j
  | [], k, y, j => by simp [putO, getO]
  | x :: r, k, y, j => by
    rw [putO]
    by_cases e : k = r.length
    · rw [if_pos e]
      simp only [getO]
      by_cases e2 : j = k
      · rw [if_pos (by omega), if_pos e2, if_pos e]; rfl
      · rw [if_neg (by omega), if_neg e2, if_neg (by omega)]
    · rw [if_neg e]
      simp only [getO, length_putO]
      rw [getO_putO r k y j]
      by_cases e2 : j = k
      · rw [if_neg (by omega), if_pos e2, if_pos e2, if_neg e]
      · rw [if_neg e2, if_neg e2]
theorem length_trimO (n : Nat) : ∀ (l : List VObj), (trimO n l).length = min n l.length
  | [] => by simp [trimO]
  | x :: r => by
    rw [trimO]
    split
    · simp; omega
    · rw [length_trimO n r]; simp; omega
theorem getO_trimO (n : Nat) : ∀ (l : List VObj) (k : Nat), getO (trimO n l) k = if k < n then getO l k else none
  | [], k => by simp [trimO, getO]
  | x :: r, k => by
    rw [trimO]
    split
    · rename_i h
      split
      · rfl
      · rename_i h2
        cases hg : getO (x :: r) k with
        | none => rfl
        | some y => have := getO_lt hg; simp at this; omega
    · rw [getO_trimO n r k]
      split
      · rename_i h1 h2
        rw [getO, if_neg (by omega)]
      · rfl

/-! ### Types -/
section
variable (P : Program)
def tZeroV (t : TypeId) : Option (List V) := ((P.info? t).bind (·.zero)).map fun v => v.cells.toList.map ofValV
def zeroVV (t : TypeId) : Option V := ((P.info? t).bind (·.zero)).map ofConstV
/-- The cells at a place. -/
def cutC (vs : List V) (off n : Nat) : Option (List V) := if off + n ≤ vs.length then some ((vs.drop off).take n) else none
def asVal (t : TypeId) (vs : List V) (off : Nat) : Option V :=
  match tAgg P t with
  | some true => match tSize P t with
    | some n => (cutC vs off n).map .agg
    | none => none
  | some false => match cutC vs off 1 with
    | some [v] => some v
    | _ => none
  | none => none
end
/-- Cells from a place on are copies now. -/
def stripAt (vs : List V) (off n : Nat) : List V := splice vs off (((vs.drop off).take n).map V.strip1)

/-! ### Operations -/
abbrev VEnv := Nat → V
def updV (ρ : VEnv) (d : Nat) (v : V) : VEnv := fun t => if t = d then v else ρ t
theorem updV_apply (ρ : VEnv) (d : Nat) (v : V) (t : Nat) : updV ρ d v t = if t = d then v else ρ t := rfl
def updVD (ρ : VEnv) (d : Option Nat) (v : V) : VEnv := match d with | some d => updV ρ d v | none => ρ
theorem updVD_some (ρ : VEnv) (d : Nat) (v : V) : updVD ρ (some d) v = updV ρ d v := rfl
theorem updVD_none (ρ : VEnv) (v : V) : updVD ρ none v = ρ := rfl

def evalV (ρ : VEnv) : Operand → V
  | .tmp t => ρ t
  | .const v => ofConstV v
  | .global _ => .undef
  | .func f => .func f [] []
/-- An operand's copy. -/
def evalC (ρ : VEnv) (x : Operand) : V := (evalV ρ x).strip
/-- An operand, itself or a copy. -/
def grab (tk : Bool) (ρ : VEnv) (x : Operand) : V × VEnv :=
  match x with
  | .tmp t => if tk then (ρ t, updV ρ t (ρ t).strip) else ((ρ t).strip, ρ)
  | x => (evalV ρ x, ρ)
def grabs (tk : Bool) (ρ : VEnv) : List (Nat × Operand) → List (Nat × V) × VEnv
  | [] => ([], ρ)
  | (i, x) :: r =>
    let q := grab tk ρ x
    let s := grabs tk q.2 r
    ((i, q.1) :: s.1, s.2)

def natOfV (v : V) : Option Nat :=
  match v with
  | .int _ n => if 0 ≤ n then some n.toNat else none
  | _ => none
def boundV (o : Option V) (d : Nat) : Option Nat :=
  match o with
  | some v => natOfV v
  | none => some d

def ofAV : AV → V
  | .int k n => .int k n
  | .bool b => .bool b
  | .str s => .str s
  | _ => .undef
def toAV : V → AV
  | .int k n => .int k n
  | .bool b => .bool b
  | .str s => .str s
  | _ => .undef

def eqNilV (P : Program) (t : TypeId) (x y : V) : Option Bool :=
  match P.underlying t, x, y with
  | some (.pointer _), .nilp, .nilp => some true
  | some (.pointer _), .nilp, .ptr .. => some false
  | some (.pointer _), .ptr .., .nilp => some false
  | some (.func _ _ _), .nilf, .nilf => some true
  | some (.func _ _ _), .nilf, .func .. => some false
  | some (.func _ _ _), .func .., .nilf => some false
  | some .bool, .bool a, .bool b => some (a == b)
  | _, _, _ => none
def eqResV (op : BinOp) (r : Option Bool) : Option V :=
  match op, r with
  | .eql, some r => some (.bool r)
  | .neq, some r => some (.bool !r)
  | _, _ => none
def binV (P : Program) (op : BinOp) (t : TypeId) (x y : V) : Option V :=
  match x, y with
  | .int k a, .int k' b => (pureOf (binOp op t (.int k a) (.int k' b))).map ofValV
  | .str a, .str b => (strOp op a b).map ofAV
  | .agg [.int k a, .int l c], .agg [.int k' b, .int l' d] => if k = k' ∧ l = l' ∧ pairInts P t = true then eqResV op (some (a == b && c == d)) else none
  | x, y => eqResV op (eqNilV P t x y)
def unV (op : UnOp) (x : V) : Option V :=
  match x with
  | .int k n => (pureOf (Op.unary op (.int k n))).map ofValV
  | .bool b => (pureOf (Op.unary op (.bool b))).map ofValV
  | _ => none
def byteCellV (c : UInt8) : V := .int .u8 c.toNat
def unbyteV : V → Option UInt8
  | .int .u8 n => if 0 ≤ n ∧ n < 256 then some (UInt8.ofNat n.toNat) else none
  | _ => none
def unbytesV : List (List V) → Option (List UInt8)
  | [] => some []
  | [x] :: l => match unbyteV x, unbytesV l with
    | some c, some r => some (c :: r)
    | _, _ => none
  | _ => none
def convV (P : Program) (src dst : TypeId) (x : V) : Option V :=
  match P.underlying src, P.underlying dst, x with
  | some _, some (.int k), .int _ n => (pureOf (Conv.intToInt k n)).map ofValV
  | some .string, some .string, .str s => some (.str s)
  | some .string, some (.slice e), .str s => match P.underlying e with
    | some (.int .u8) => if tSize P e = some 1 then some (.vec (!s.isEmpty) (s.map fun c => [byteCellV c])) else none
    | _ => none
  | some (.slice e), some .string, .vec _ els => match P.underlying e with
    | some (.int .u8) => (unbytesV els).map .str
    | _ => none
  | _, _, _ => none
def cutV (els : List (List V)) (low high : Option V) : Option V :=
  match boundV high els.length, boundV low 0 with
  | some h, some l => if h ≤ els.length ∧ l ≤ h then some (.vec false ((els.drop l).take (h - l))) else none
  | _, _ => none
def cutStrV (s : List UInt8) (low high : Option V) : Option V :=
  match boundV high s.length, boundV low 0 with
  | some h, some l => if h ≤ s.length ∧ l ≤ h then some (.str ((s.drop l).take (h - l))) else none
  | _, _ => none
def cutSlV (o off len : Nat) (cap : Option Nat) (esz : Nat) (low high : Option V) : Option V :=
  match boundV high len, boundV low 0 with
  | some h, some l => if h ≤ len ∧ l ≤ h then some (.sl o (off + l * esz) (h - l) (cap.map (· - l)) esz) else none
  | _, _ => none
def fillV (place : Nat → Option (Nat × Nat)) (cells : List V) : List (Nat × V) → Option (List V)
  | [] => some cells
  | (i, v) :: rest =>
    match place i with
    | none => none
    | some (off, size) => if v.isVal = true ∧ v.cells.length = size ∧ off + size ≤ cells.length then fillV place (splice cells off v.cells) rest else none
def chunk (s : Nat) : Nat → List V → List (List V)
  | 0, _ => []
  | n + 1, l => l.take s :: chunk s n (l.drop s)
def lenV (P : Program) (t : TypeId) (x : V) : Option V :=
  match P.underlying t, x with
  | some .string, .str s => some (.int .i64 s.length)
  | some (.slice _), .vec _ els => some (.int .i64 els.length)
  | some (.slice _), .sl _ _ len _ _ => some (.int .i64 len)
  | some (.array n _), _ => some (.int .i64 n)
  | _, _ => none
def minmaxV (isMax : Bool) (x y : V) : Option V :=
  match x, y with
  | .int k a, .int _ b => some (.int k (if isMax then (if b > a then b else a) else (if b < a then b else a)))
  | _, _ => none

/-- What is appended. -/
def srcV (σ : St) (size : Nat) (x : V) : Option (List (List V)) :=
  match x with
  | .vec _ els => if els.all (fun e => decide (e.length = size)) = true then some els else none
  | .str s => if size = 1 then some (s.map fun c => [byteCellV c]) else none
  | .sl o off len _ esz => if esz = size then match σ.get o with
      | some (.cells vs) => (cutC vs off (len * esz)).map fun c => chunk esz len (c.map V.strip1)
      | _ => none
    else none
  | _ => none
/-- Is room for so many elements? -/
def fits (bytes n : Nat) : Prop := n ≤ 140737488355328 ∧ n * bytes ≤ 140737488355328
instance (bytes n : Nat) : Decidable (fits bytes n) := inferInstanceAs (Decidable (_ ∧ _))
/-- append(s, x). `wm`: slices of these elements are objects. `fl`: objects below it are not touched. -/
def appendV (P : Program) (wm : TypeId → Bool) (fl : Nat) (σ : St) (e : TypeId) (s x : V) : Option (V × St) :=
  match tSize P e, tBytes P e, tZero P e with
  | some size, some bytes, some z =>
    if 0 < size ∧ z.length = size then
      match srcV σ size x with
      | none => none
      | some new =>
        match s with
        | .vec own els =>
          if new.isEmpty = true then some (s, σ)
          else if fits bytes (els.length + new.length) ∧ own = true ∧ els.all (fun e => decide (e.length = size)) = true then
            if wm e = true then
              if els.isEmpty = true then some (.sl σ.size 0 new.length none size, σ.push (.cells (new.flatten.map V.strip1))) else none
            else some (.vec true (els ++ new), σ)
          else none
        | .sl o off len cap esz =>
          if new.isEmpty = true then some (s, σ)
          else if fits bytes (len + new.length) ∧ esz = size ∧ fl ≤ o ∧ wm e = true then
            match σ.get o with
            | some (.cells vs) => match cutC vs off (len * esz) with
              | some old => match cap with
                | some c => if c < len + new.length then some (.sl σ.size 0 (len + new.length) none size, σ.push (.cells ((old ++ new.flatten).map V.strip1))) else none
                | none => some (.sl σ.size 0 (len + new.length) none size, (σ.put o .dead).push (.cells ((old ++ new.flatten).map V.strip1)))
              | none => none
            | _ => none
          else none
        | _ => none
    else none
  | _, _, _ => none

def keyOKV : TypeDesc → V → Bool
  | .string, .str _ => true
  | .int k, .int k' _ => decide (k' = k)
  | _, _ => false
def keyEqV : V → V → Bool
  | .str a, .str b => a == b
  | .int _ a, .int _ b => a == b
  | _, _ => false
def findV (k : V) : List (V × V) → Nat → Option (Nat × V)
  | [], _ => none
  | e :: es, i => if keyEqV k e.1 = true then some (i, e.2) else findV k es (i + 1)
def entriesV (σ : St) : V → Option (List (V × V))
  | .nilm => some []
  | .map o => match σ.get o with | some (.amap es) => some es | _ => none
  | _ => none
def lookupV (P : Program) (σ : St) (t : TypeId) (x k : V) (ok : Bool) : Option V :=
  match P.underlying t with
  | some (.map kt et) => match P.underlying kt, entriesV σ x, zeroVV P et with
    | some d, some es, some z =>
      if keyOKV d k = true ∧ es.all (fun e => keyOKV d e.1) = true then
        match findV k es 0 with
        | some (_, v) => some (if ok then .tuple [v, .bool true] else v)
        | none => some (if ok then .tuple [z.strip, .bool false] else z.strip)
      else none
    | _, _, _ => none
  | _ => none
def updateV (P : Program) (fl : Nat) (σ : St) (t : TypeId) (x k v : V) : Option St :=
  match P.underlying t, x with
  | some (.map kt _), .map o => match P.underlying kt, σ.get o with
    | some d, some (.amap es) =>
      if keyOKV d k = true ∧ es.all (fun e => keyOKV d e.1) = true ∧ fl ≤ o ∧ v.low (o + 1) = true then
        match findV k es 0 with
        | some (i, _) => some (σ.put o (.amap (es.set i (k, v))))
        | none => some (σ.put o (.amap (es ++ [(k, v)])))
      else none
    | _, _ => none
  | _, _ => none

/-- What objects a value leads to that come behind this one. -/
def V.pins (o size : Nat) (v : V) (pin : Nat) : Nat := if v.low (o + 1) = true then pin else max pin size

/-- The type of a builder's bytes. -/
def bldElem0 (P : Program) (t : TypeId) : Option TypeId :=
  match P.underlying t with
  | some (.struct fs) => match fs.toList with
    | [_, g] => match P.underlying g.type with
      | some (.slice e) => some e
      | _ => none
    | _ => none
  | _ => none
def bldElem (P : Program) (t : TypeId) : Option TypeId := if isBld0 P t = true then bldElem0 P t else
  match P.underlying t with
  | some (.struct fs) => match fs.toList with
    | [f] => bldElem0 P f.type
    | _ => none
  | _ => none
structure Cx where
  P : Program
  wm : TypeId → Bool
  fl : Nat

/-- One operation that is no call of a function. `tk`: it takes what it is handed. -/
def vOp (c : Cx) (tk : Bool) (ρ : VEnv) (o : Op) (σ : St) : Option (V × VEnv × St) :=
  match o with
  | .move x | .assign x => some ((grab tk ρ x).1, (grab tk ρ x).2, σ)
  | .pick b x y => match evalV ρ b with
    | .bool t => some (if t then evalC ρ x else evalC ρ y, ρ, σ)
    | _ => none
  | .alloc t => if isBld c.P t = true then (match tZeroV c.P t, bldElem c.P t with
      | some [.nilp, .vec true []], some u => some (.ptr σ.size 0, ρ, σ.push (.bld t u []))
      | _, _ => none)
    else match tZeroV c.P t with
    | some cs => if cs.all V.isCell = true then some (.ptr σ.size 0, ρ, σ.push (.cells cs)) else none
    | none => none
  | .box _ x => if (grab tk ρ x).1.isVal = true then some (.ptr σ.size 0, (grab tk ρ x).2, σ.push (.cells (grab tk ρ x).1.cells)) else none
  | .build t parts => match tZeroV c.P t, c.P.underlying t with
    | some z, some (.struct fs) => match allA (fun f : Field => (tSize c.P f.type).map fun s => (f.offset, s)) fs.toList with
      | some ps => (fillV (fun i => ps[i]?) z (grabs tk ρ parts.toList).1).map fun cs => (.agg cs, (grabs tk ρ parts.toList).2, σ)
      | none => none
    | some z, some (.array _ e) => match tSize c.P e with
      | some s => (fillV (fun i => some (i * s, s)) z (grabs tk ρ parts.toList).1).map fun cs => (.agg cs, (grabs tk ρ parts.toList).2, σ)
      | none => none
    | _, _ => none
  | .buildSlice t len parts => match tElem c.P t with
    | some e => match tSize c.P e, tZeroV c.P e with
      | some s, some z =>
        if len * s ≤ 16777216 ∧ 0 < s ∧ z.length = s then
          match fillV (fun i => some (i * s, s)) ((List.replicate len (z.map V.strip1)).flatten) (parts.toList.map fun p => (p.1, evalC ρ p.2)) with
          | some cs => if cs.all V.isCell = true then (if c.wm e = true then some (.sl σ.size 0 len (some len) s, ρ, σ.push (.cells (cs.map V.strip1))) else some (.vec true (chunk s len cs), ρ, σ)) else none
          | none => none
        else none
      | _, _ => none
    | none => none
  | .load t a => match evalV ρ a with
    | .ptr o off => match σ.get o with
      | some (.cells vs) => match asVal c.P t vs off with
        | some v => if tk then (if c.fl ≤ o then some (v, ρ, σ.put o (.cells (stripAt vs off v.cells.length))) else none) else some (v.strip, ρ, σ)
        | none => none
      | _ => none
    | .ro vs off => (asVal c.P t vs off).map fun v => (v.strip, ρ, σ)
    | _ => none
  | .store t a x => match evalV ρ a with
    | .ptr o off => match σ.get o with
      | some (.cells vs) =>
        if (grab tk ρ x).1.isVal = true ∧ tSize c.P t = some (grab tk ρ x).1.cells.length ∧ off + (grab tk ρ x).1.cells.length ≤ vs.length ∧ c.fl ≤ o then
          some (.undef, (grab tk ρ x).2, ⟨putO σ.objs o (.cells (splice vs off (grab tk ρ x).1.cells)), (grab tk ρ x).1.pins o σ.size σ.pin⟩)
        else none
      | _ => none
    | _ => none
  | .nilCheck x => match evalC ρ x with
    | .ptr o off => some (.ptr o off, ρ, σ)
    | .ro vs off => some (.ro vs off, ρ, σ)
    | .func f a b => some (.func f a b, ρ, σ)
    | _ => none
  | .binOp op t x y _ => (binV c.P op t (evalV ρ x) (evalV ρ y)).map fun v => (v, ρ, σ)
  | .unOp op _ x => (unV op (evalV ρ x)).map fun v => (v, ρ, σ)
  | .convert s d x => (convV c.P s d (evalV ρ x)).map fun v => (v, ρ, σ)
  | .makeFunc (.func f) first cap => some (.func f (first.toList.map (evalC ρ)) (cap.toList.map (evalC ρ)), ρ, σ)
  | .slice t x lo hi none => match c.P.underlying t, evalV ρ x with
    | some .string, .str s => (cutStrV s (lo.map (evalV ρ)) (hi.map (evalV ρ))).map fun v => (v, ρ, σ)
    | some (.slice e), .vec _ els => match tSize c.P e with
      | some s => if els.all (fun x => decide (x.length = s)) = true then (cutV els (lo.map (evalV ρ)) (hi.map (evalV ρ))).map fun v => (v, ρ, σ) else none
      | none => none
    | some (.slice e), .sl o off len cap esz => if tSize c.P e = some esz then (cutSlV o off len cap esz (lo.map (evalV ρ)) (hi.map (evalV ρ))).map fun v => (v, ρ, σ) else none
    | _, _ => none
  | .fieldAddr s x i => match evalV ρ x, tField c.P s i with
    | .ptr o off, some (k, ft) => match tSize c.P ft with
      | some (_ + 1) => some (.ptr o (off + k), ρ, σ)
      | _ => none
    | .ro vs off, some (k, ft) => match tSize c.P ft with
      | some (_ + 1) => some (.ro vs (off + k), ρ, σ)
      | _ => none
    | _, _ => none
  | .field t x i => match evalC ρ x, tField c.P t i with
    | .agg vs, some (k, ft) => (asVal c.P ft vs k).map fun v => (v.strip, ρ, σ)
    | _, _ => none
  | .indexAddr t x i => match c.P.underlying t, evalV ρ x, natOfV (evalV ρ i) with
    | some (.slice e), .vec _ els, some k => match els[k]? with
      | some el => if tSize c.P e = some el.length then some (.ro el 0, ρ, σ) else none
      | none => none
    | some (.slice e), .sl o off len _ esz, some k => if k < len ∧ tSize c.P e = some esz then some (.ptr o (off + k * esz), ρ, σ) else none
    | _, _, _ => none
  | .index t x i => match c.P.underlying t, evalC ρ x, natOfV (evalV ρ i) with
    | some .string, .str s, some k => match s[k]? with | some b => some (.int .u8 b.toNat, ρ, σ) | none => none
    | some (.array n e), .agg vs, some k => match tSize c.P e with
      | some s => if k < n then (asVal c.P e vs (k * s)).map fun v => (v.strip, ρ, σ) else none
      | none => none
    | _, _, _ => none
  | .extract x i => match evalV ρ x with
    | .tuple vs => match vs[i]? with | some v => some (v.strip, ρ, σ) | none => none
    | _ => none
  | .call q => match q.callee with
    | .builtin .len => match q.argTypes[0]?, q.args.toList with
      | some t, [x] => (lenV c.P t (evalV ρ x)).map fun v => (v, ρ, σ)
      | _, _ => none
    | .builtin .append => match q.argTypes[0]?, q.argTypes[1]?, q.args.toList with
      | some t, some u, [s, x] => match tElem c.P t, c.P.underlying u with
        | some e, some (.slice _) => (appendV c.P c.wm c.fl σ e (grab true ρ s).1 (evalV (grab true ρ s).2 x)).map fun r => (r.1, (grab true ρ s).2, r.2)
        | some e, some .string => (appendV c.P c.wm c.fl σ e (grab true ρ s).1 (evalV (grab true ρ s).2 x)).map fun r => (r.1, (grab true ρ s).2, r.2)
        | _, _ => none
      | _, _, _ => none
    | .builtin .max => match q.args.toList.map (evalV ρ) with
      | [x, y] => (minmaxV true x y).map fun v => (v, ρ, σ)
      | _ => none
    | .builtin .min => match q.args.toList.map (evalV ρ) with
      | [x, y] => (minmaxV false x y).map fun v => (v, ρ, σ)
      | _ => none
    | _ => none
  | .makeMap _ none => some (.map σ.size, ρ, σ.push (.amap []))
  | .lookup t x k ok => (lookupV c.P σ t (evalV ρ x) (evalV ρ k) ok).map fun v => (v, ρ, σ)
  | .mapUpdate t x k v => (updateV c.P c.fl σ t (evalV ρ x) (evalV ρ k) (evalC ρ v)).map fun σ => (.undef, ρ, σ)
  | _ => none
end Go.Vw
end
section
/- Regions, code and calls of the second evaluator. -/
namespace Go.Vw
open Go Go.RowKit Go.Abs

/-! ### What an operation takes -/
def defd (ops : List Oper) (i t : Nat) : Bool := (ops.take i).any fun o => o.dst == some t
def appended (ops : List Oper) (t : Nat) : Bool := ops.any fun o => match o.op with
  | .call q => match q.callee, q.args.toList with
    | .builtin .append, .tmp s :: _ => s == t
    | _, _ => false
  | _ => false
def takes (ops : List Oper) (i : Nat) (o : Oper) : Bool := match o.op with
  | .move (.tmp s) | .assign (.tmp s) => defd ops i s || (match o.dst with | some d => appended ops d | none => false)
  | .load _ _ => match o.dst with | some d => appended ops d | none => false
  | .store _ _ (.tmp s) | .box _ (.tmp s) => defd ops i s
  | .build _ parts => parts.toList.all fun p => match p.2 with | .tmp s => defd ops i s | _ => true
  | _ => false

def yieldV (v : V) : Option (Option Bool) := match v with | .bool b => some (some b) | .tuple [] => some none | _ => none
def yieldedV (ops : List Oper) (ρ : VEnv) (j : Nat) : Option (Option Bool) :=
  match (ops[j]?).bind (·.dst) with
  | some d => yieldV (ρ d)
  | none => none
def goesV (ops : List Oper) (ρ : VEnv) (o : Oper) : Option Bool :=
  match o.guard with
  | none => some true
  | some (j, want) => (yieldedV ops ρ j).map (· == some want)

/-! ### A region whose order is open: what is asked of it -/
/-- A writer that leaves all old objects as they are. -/
def mild (P : Program) (wm : TypeId → Bool) (quiet : Nat → Bool) (o : Op) : Bool := match o with
  | .call q => match q.callee with
    | .builtin .append => match q.argTypes[0]? with
      | some t => match tElem P t with
        | some e => !(wm e)
        | none => false
      | none => false
    | .value (.func k) => quiet k
    | _ => false
  | .convert _ _ _ => true
  | _ => false
/-- The tmps of a region that lead to nothing new. -/
def olds (P : Program) (wm : TypeId → Bool) (quiet : Nat → Bool) : List Oper → Bool → (Nat → Bool) → List (Nat → Bool)
  | [], _, f => [f]
  | o :: r, ok, f =>
    let isOld : Operand → Bool := fun x => match x with | .tmp t => f t | _ => true
    let v := match o.op with
      | .move x | .assign x | .nilCheck x | .fieldAddr _ x _ | .field _ x _ | .indexAddr _ x _ => isOld x
      | .load _ x => ok && isOld x
      | _ => false
    let ok := ok && (!(cls P o.op == 3) || mild P wm quiet o.op)
    f :: olds P wm quiet r ok (match o.dst with | some d => fun t => if t = d then v else f t | none => f)
/-- The places that are read early and written late: they must be apart when all is done. -/
def seps (P : Program) (ops : List Oper) : List (Nat × Nat) :=
  (List.range ops.length).flatMap fun j => match ops[j]? with
    | some y => match y.op with
      | .load _ (.tmp x) => (List.range ops.length).flatMap fun l => match ops[l]? with
        | some u => match u.op with
          | .store _ (.tmp a) _ => if j < l ∧ Go.Abs.ahead (ancs ops) j l = false ∧ (ops.drop j).all (fun o => o.dst != some x) = true ∧ (ops.drop l).all (fun o => o.dst != some a) = true then [(x, a)] else []
          | _ => []
        | none => []
      | _ => []
    | none => []
def apartB (ρ : VEnv) (p : Nat × Nat) : Bool := match ρ p.1, ρ p.2 with
  | .ptr o _, .ptr o' _ => !(o == o')
  | _, _ => false
def lateOK (P : Program) (ops : List Oper) (j : Nat) (x : Operand) (l : Nat) (u : Oper) : Bool :=
  match x, u.op with
  | .tmp x, .store _ (.tmp a) _ => (seps P ops).contains (x, a) && (ops.drop j).all (fun o => o.dst != some x) && (ops.drop l).all (fun o => o.dst != some a)
  | _, _ => false
def loadsOK (P : Program) (wm : TypeId → Bool) (quiet : Nat → Bool) (ops : List Oper) : Bool :=
  (List.range ops.length).all fun j => match ops[j]? with
    | some y => match y.op with
      | .load _ x =>
        ((List.range j).all fun i => match ops[i]? with
          | none => true
          | some z => !(decide (2 ≤ cls P z.op)) || Go.Abs.ahead (ancs ops) i j ||
              ((match x with | .tmp t => ((olds P wm quiet ops true (fun _ => true)).getD j (fun _ => false)) t | _ => false) &&
                (List.range j).all fun l => !(decide (i ≤ l)) || match ops[l]? with | none => true | some u => !(cls P u.op == 3) || mild P wm quiet u.op)) &&
        ((List.range ops.length).all fun k => match ops[k]? with
          | none => true
          | some z => !(decide (j < k) && cls P z.op == 3) || Go.Abs.ahead (ancs ops) j k ||
              (List.range (k + 1)).all fun l => !(decide (j < l)) || match ops[l]? with | none => true | some u => !(cls P u.op == 3) || mild P wm quiet u.op || lateOK P ops j x l u)
      | _ => true
    | none => true

/-! ### Calls' ends -/
structure Knobs where
  /-- in this function, slices of these elements are objects -/
  wm : Nat → TypeId → Bool
  /-- this function leaves all older objects as they are -/
  quiet : Nat → Bool
  /-- this function is walked (no contract stands for it) -/
  inn : Nat → Bool
  /-- rounds of its loops leave no objects -/
  tl : Nat → Bool

def V.stripAll : V → V
  | .tuple vs => .tuple (vs.map V.strip)
  | v => v.strip
def sweep (m : Nat) (ρ : VEnv) : VEnv := fun t => if (ρ t).low m = true then ρ t else .undef
def iterEnd (tl : Bool) (n : Nat) (ρ : VEnv) (σ : St) : VEnv × St := if tl then (sweep (max n σ.pin) ρ, σ.trim (max n σ.pin)) else (ρ, σ)
def callEnd (n : Nat) (v : V) (σ : St) : V × St :=
  if v.low (max n σ.pin) = true then (v, σ.trim (max n σ.pin)) else (v, σ)

def resV (P : Program) (σ : St) (ρ : VEnv) : ResultVar → Option V
  | .tmp t => some (ρ t)
  | .cell a t => match ρ a with
    | .ptr o off => match σ.get o with
      | some (.cells vs) => asVal P t vs off
      | _ => none
    | _ => none
def oneOrAllV : List V → V
  | [v] => v
  | l => .tuple l

/-- What a function gives back: a slice that stands alone may be appended to. -/
def V.keep : V → V
  | .vec own els => .vec own els
  | v => v.stripAll
def retV : List ResultVar → List V → V
  | [.tmp _], [v] => v.keep
  | _, l => (oneOrAllV l).stripAll

/-! ### What comes to what -/
structure CxF where
  N : Nat
  wm : TypeId → Bool
  fl : Nat
  tl : Bool
inductive Job where
  | call (fl f : Nat) (args : List V) (σ : St) (v : V) (σ' : St)
  | code (c : CxF) (k : Code) (ρ : VEnv) (σ : St) (ex : Ex) (ρ' : VEnv) (σ' : St)
  | ops (c : CxF) (all : List Oper) (i : Nat) (rest : List Oper) (ρ : VEnv) (σ : St) (ρ' : VEnv) (σ' : St)

abbrev ExtV := Nat → Nat → List V → St → V → St → Prop
inductive Big (P : Program) (K : Knobs) (X : ExtV) : Job → Prop
  | ext {fl f args σ v σ'} : X fl f args σ v σ' → Big P K X (.call fl f args σ v σ')
  | body {fl f : Nat} {args : List V} {σ σ1 : St} {fn : Func} {c : Code} {ex : Ex} {ρ1 : VEnv} {l : List V} : K.inn f = true → P.funcs[f]? = some fn → fn.body = some c → args.length ≤ fn.ntmps →
      Big P K X (.code ⟨fn.ntmps, K.wm f, if K.quiet f then max fl σ.size else fl, K.tl f⟩ c (fun t => args.getD t .undef) σ ex ρ1 σ1) → (ex = .normal ∨ ex = .ret) → allA (resV P σ1 ρ1) fn.results.toList = some l →
      Big P K X (.call fl f args σ (callEnd σ.size (retV fn.results.toList l) σ1).1 (callEnd σ.size (retV fn.results.toList l) σ1).2)
  | skip {c ρ σ} : Big P K X (.code c .skip ρ σ .normal ρ σ)
  | exit {c id ρ σ} : Big P K X (.code c (.exit id) ρ σ (.exit id) ρ σ)
  | ret {c ρ σ} : Big P K X (.code c .ret ρ σ .ret ρ σ)
  | seq {c x y ρ σ ρ1 σ1 ex ρ' σ'} : Big P K X (.code c x ρ σ .normal ρ1 σ1) → Big P K X (.code c y ρ1 σ1 ex ρ' σ') → Big P K X (.code c (.seq x y) ρ σ ex ρ' σ')
  | seqx {c x y ρ σ ex ρ' σ'} : Big P K X (.code c x ρ σ ex ρ' σ') → ex ≠ .normal → Big P K X (.code c (.seq x y) ρ σ ex ρ' σ')
  | cond {c x y z ρ σ b ex ρ' σ'} : evalV ρ x = .bool b → Big P K X (.code c (if b then y else z) ρ σ ex ρ' σ') → Big P K X (.code c (.cond x y z) ρ σ ex ρ' σ')
  | block {c id x ρ σ ex ρ' σ'} : Big P K X (.code c x ρ σ ex ρ' σ') → Big P K X (.code c (.block id x) ρ σ (match ex with | .exit k => if k = id then .normal else .exit k | e => e) ρ' σ')
  | loop {c x ρ σ ρ1 σ1 ex ρ' σ'} : Big P K X (.code c x ρ σ .normal ρ1 σ1) → Big P K X (.code c (.loop x) (iterEnd c.tl σ.size ρ1 σ1).1 (iterEnd c.tl σ.size ρ1 σ1).2 ex ρ' σ') → Big P K X (.code c (.loop x) ρ σ ex ρ' σ')
  | loopx {c x ρ σ id ρ1 σ1} : Big P K X (.code c x ρ σ (.exit id) ρ1 σ1) → Big P K X (.code c (.loop x) ρ σ (.exit id) (iterEnd c.tl σ.size ρ1 σ1).1 (iterEnd c.tl σ.size ρ1 σ1).2)
  | loopr {c x ρ σ ρ1 σ1} : Big P K X (.code c x ρ σ .ret ρ1 σ1) → Big P K X (.code c (.loop x) ρ σ .ret ρ1 σ1)
  | region {c id} {ops : Array Oper} {ρ σ ρ' σ'} : inFrame c.N ops.toList = true → Big P K X (.ops c ops.toList 0 ops.toList ρ σ ρ' σ') → Big P K X (.code c (.region id ops false) ρ σ .normal ρ' σ')
  | draw {c id} {ops : Array Oper} {ρ σ ρ' σ'} : loadsOK P c.wm K.quiet ops.toList = true → staticOK P ops.toList c.N = true → (seps P ops.toList).all (apartB ρ') = true → Big P K X (.ops c ops.toList 0 ops.toList ρ σ ρ' σ') → Big P K X (.code c (.region id ops true) ρ σ .normal ρ' σ')
  | nil {c all i ρ σ} : Big P K X (.ops c all i [] ρ σ ρ σ)
  | op {c all i o rest ρ σ v ρ1 σ1 ρ' σ'} : goesV all ρ o = some true → vOp ⟨P, c.wm, c.fl⟩ (takes all i o) ρ o.op σ = some (v, ρ1, σ1) → Big P K X (.ops c all (i + 1) rest (updVD ρ1 o.dst v) σ1 ρ' σ') → Big P K X (.ops c all i (o :: rest) ρ σ ρ' σ')
  | past {c all i o rest ρ σ ρ' σ'} : goesV all ρ o = some false → Big P K X (.ops c all (i + 1) rest (updVD ρ o.dst (.tuple [])) σ ρ' σ') → Big P K X (.ops c all i (o :: rest) ρ σ ρ' σ')
  | call {c all i} {o : Oper} {rest ρ σ} {q : Call} {x k first cap v σ1 ρ' σ'} : goesV all ρ o = some true → o.op = .call q → q.callee = .value x → evalV ρ x = .func k first cap →
      Big P K X (.call c.fl k (first.map V.strip ++ q.args.toList.map (evalC ρ) ++ cap.map V.strip) σ v σ1) → Big P K X (.ops c all (i + 1) rest (updVD ρ o.dst v) σ1 ρ' σ') → Big P K X (.ops c all i (o :: rest) ρ σ ρ' σ')
end Go.Vw
end
section
/- How the second evaluator's state stands for the first one's. -/
namespace Go.Vw
open Go Go.RowKit Go.Abs

inductive Pos where
  /-- a frame's slot, and a cell of what lies there -/
  | tmp (t j : Nat)
  /-- an object's cell -/
  | cell (o j : Nat)
  /-- a cell of a value on its way -/
  | val (j : Nat)
  | part (j : Nat)

structure Gh where
  /-- the objects' blocks, newest first -/
  μ : List Nat
  /-- what nobody writes any more -/
  C : Nat → Option (List AV)
  /-- where the slice stands that may be appended to -/
  U : Nat → Option Pos
def blkO : List Nat → Nat → Option Nat
  | [], _ => none
  | x :: r, k => if k = r.length then some x else blkO r k
def Gh.blk (g : Gh) (o : Nat) : Option Nat := blkO g.μ o

mutual
inductive VA (g : Gh) : V → AV → Prop
  | undef (a : AV) : VA g .undef a
  | int (k : IntKind) (n : Int) : VA g (.int k n) (.int k n)
  | bool (b : Bool) : VA g (.bool b) (.bool b)
  | str (s : List UInt8) : VA g (.str s) (.str s)
  | agg (l : List V) (c : List AV) : VAs g l c → VA g (.agg l) (.agg c)
  | tuple (l : List V) (c : List AV) : VAs g l c → VA g (.tuple l) (.tuple c)
  | ptr (o off b : Nat) : g.blk o = some b → VA g (.ptr o off) (.ptr b off)
  | ro (cells : List V) (off b base : Nat) (vs : List AV) : g.C b = some vs → base + cells.length ≤ vs.length → cells.all V.isCell = true → VAs g cells ((vs.drop base).take cells.length) → VA g (.ro cells off) (.ptr b (base + off))
  | nilp : VA g .nilp .nilp
  | nils (own : Bool) : VA g (.vec own []) .nils
  | vec (own : Bool) (els : List (List V)) (b off : Nat) (cap : Option Nat) (esz : Nat) (vs : List AV) : g.C b = some vs → 0 < esz → off + els.length * esz ≤ vs.length → (∀ (i : Nat) (el : List V), els[i]? = some el → el.length = esz ∧ el.all V.isCell = true) →
      (∀ (i : Nat) (el : List V), els[i]? = some el → VAs g el ((vs.drop (off + i * esz)).take esz)) → VA g (.vec own els) (.slice b off els.length cap esz)
  | sl (o off len b : Nat) (cap : Option Nat) (esz : Nat) : g.blk o = some b → VA g (.sl o off len cap esz) (.slice b off len cap esz)
  | func (f : Nat) (l1 l2 : List V) (c1 c2 : List AV) : VAs g l1 c1 → VAs g l2 c2 → VA g (.func f l1 l2) (.func f c1 c2)
  | nilf : VA g .nilf .nilf
  | map (o b : Nat) : g.blk o = some b → VA g (.map o) (.map b)
  | nilm : VA g .nilm .nilm
inductive VAs (g : Gh) : List V → List AV → Prop
  | nil : VAs g [] []
  | cons (v : V) (a : AV) (l : List V) (c : List AV) : VA g v a → VAs g l c → VAs g (v :: l) (a :: c)
end

structure Gh.Le (g g' : Gh) : Prop where
  blk : ∀ o b, g.blk o = some b → g'.blk o = some b
  C : ∀ b vs, g.C b = some vs → g'.C b = some vs
theorem Gh.Le.refl (g : Gh) : g.Le g := ⟨fun _ _ h => h, fun _ _ h => h⟩
theorem Gh.Le.trans {a b c : Gh} (h : a.Le b) (k : b.Le c) : a.Le c := ⟨fun o x e => k.blk o x (h.blk o x e), fun o x e => k.C o x (h.C o x e)⟩

mutual
/-- Objects below n are enough. -/
theorem VA.low {g g' : Gh} {n : Nat} (hb : ∀ o b, o < n → g.blk o = some b → g'.blk o = some b) (hc : ∀ b vs, g.C b = some vs → g'.C b = some vs) : ∀ {v : V} {a : AV}, VA g v a → v.low n = true → VA g' v a
  | _, _, .undef a, _ => .undef a
  | _, _, .int k n, _ => .int k n
  | _, _, .bool b, _ => .bool b
  | _, _, .str s, _ => .str s
  | _, _, .agg l c h, k => .agg l c (VAs.low hb hc h (by simpa [V.low] using k))
  | _, _, .tuple l c h, k => .tuple l c (VAs.low hb hc h (by simpa [V.low] using k))
  | _, _, .ptr o off b h, k => .ptr o off b (hb _ _ (by simpa [V.low] using k) h)
  | _, _, .ro cs off b base vs h1 h2 h4 h3, k => .ro cs off b base vs (hc _ _ h1) h2 h4 (VAs.low hb hc h3 (by simpa [V.low] using k))
  | _, _, .nilp, _ => .nilp
  | _, _, .nils own, _ => .nils own
  | _, _, .vec own els b off cap esz vs h1 h2 h3 h4 h5, k => .vec own els b off cap esz vs (hc _ _ h1) h2 h3 h4 (fun i el hi => VAs.low hb hc (h5 i el hi) (by
      have : V.lowss n els = true := by simpa [V.low] using k
      clear k h5 h4 h3
      induction els generalizing i with
      | nil => simp at hi
      | cons x r ih =>
        simp only [V.lowss, Bool.and_eq_true] at this
        cases i with
        | zero => simp only [List.getElem?_cons_zero, Option.some.injEq] at hi; subst hi; exact this.1
        | succ i => exact ih i (by simpa using hi) this.2))
  | _, _, .sl o off len b cap esz h, k => .sl o off len b cap esz (hb _ _ (by simpa [V.low] using k) h)
  | _, _, .func f l1 l2 c1 c2 h1 h2, k => .func f l1 l2 c1 c2 (VAs.low hb hc h1 (by simp [V.low] at k; exact k.1)) (VAs.low hb hc h2 (by simp [V.low] at k; exact k.2))
  | _, _, .nilf, _ => .nilf
  | _, _, .map o b h, k => .map o b (hb _ _ (by simpa [V.low] using k) h)
  | _, _, .nilm, _ => .nilm
theorem VAs.low {g g' : Gh} {n : Nat} (hb : ∀ o b, o < n → g.blk o = some b → g'.blk o = some b) (hc : ∀ b vs, g.C b = some vs → g'.C b = some vs) : ∀ {l : List V} {c : List AV}, VAs g l c → V.lows n l = true → VAs g' l c
  | _, _, .nil, _ => .nil
  | _, _, .cons v a l c h k, e => .cons v a l c (VA.low hb hc h (by simp [V.lows] at e; exact e.1)) (VAs.low hb hc k (by simp [V.lows] at e; exact e.2))
end
mutual
theorem VA.mono {g g' : Gh} (hl : g.Le g') : ∀ {v : V} {a : AV}, VA g v a → VA g' v a
  | _, _, .undef a => .undef a
  | _, _, .int k n => .int k n
  | _, _, .bool b => .bool b
  | _, _, .str s => .str s
  | _, _, .agg l c h => .agg l c (VAs.mono hl h)
  | _, _, .tuple l c h => .tuple l c (VAs.mono hl h)
  | _, _, .ptr o off b h => .ptr o off b (hl.blk _ _ h)
  | _, _, .ro cs off b base vs h1 h2 h4 h3 => .ro cs off b base vs (hl.C _ _ h1) h2 h4 (VAs.mono hl h3)
  | _, _, .nilp => .nilp
  | _, _, .nils own => .nils own
  | _, _, .vec own els b off cap esz vs h1 h2 h3 h4 h5 => .vec own els b off cap esz vs (hl.C _ _ h1) h2 h3 h4 (fun i el hi => VAs.mono hl (h5 i el hi))
  | _, _, .sl o off len b cap esz h => .sl o off len b cap esz (hl.blk _ _ h)
  | _, _, .func f l1 l2 c1 c2 h1 h2 => .func f l1 l2 c1 c2 (VAs.mono hl h1) (VAs.mono hl h2)
  | _, _, .nilf => .nilf
  | _, _, .map o b h => .map o b (hl.blk _ _ h)
  | _, _, .nilm => .nilm
theorem VAs.mono {g g' : Gh} (hl : g.Le g') : ∀ {l : List V} {c : List AV}, VAs g l c → VAs g' l c
  | _, _, .nil => .nil
  | _, _, .cons v a l c h k => .cons v a l c (VA.mono hl h) (VAs.mono hl k)
end

section
variable {g : Gh}
theorem VAs.length : ∀ {l : List V} {c : List AV}, VAs g l c → c.length = l.length
  | _, _, .nil => rfl
  | _, _, .cons _ _ _ _ _ k => by simp [VAs.length k]
theorem VAs.get : ∀ {l : List V} {c : List AV}, VAs g l c → ∀ (i : Nat) (v : V), l[i]? = some v → ∃ a, c[i]? = some a ∧ VA g v a
  | _, _, .nil, i, v, h => by simp at h
  | _, _, .cons x u l c h k, 0, v, hv => by simp at hv; subst hv; exact ⟨u, rfl, h⟩
  | _, _, .cons x u l c h k, i + 1, v, hv => by simpa using VAs.get k i v (by simpa using hv)
theorem VAs.of_get : ∀ {l : List V} {c : List AV}, c.length = l.length → (∀ (i : Nat) (v : V), l[i]? = some v → ∃ a, c[i]? = some a ∧ VA g v a) → VAs g l c
  | [], [], _, _ => .nil
  | [], _ :: _, h, _ => by simp at h
  | _ :: _, [], h, _ => by simp at h
  | x :: l, u :: c, h, k => by
    obtain ⟨u', hu, hv⟩ := k 0 x rfl
    simp only [List.getElem?_cons_zero, Option.some.injEq] at hu
    subst hu
    exact .cons x u l c hv (VAs.of_get (by simpa using h) (fun i v hi => by simpa using k (i + 1) v (by simpa using hi)))
theorem VAs.append : ∀ {l l' : List V} {c c' : List AV}, VAs g l c → VAs g l' c' → VAs g (l ++ l') (c ++ c')
  | _, _, _, _, .nil, h => h
  | _, _, _, _, .cons x u l c h k, h' => .cons x u _ _ h (VAs.append k h')
theorem VAs.take {l : List V} {c : List AV} (h : VAs g l c) (n : Nat) : VAs g (l.take n) (c.take n) := by
  refine VAs.of_get (by simp [h.length]) (fun i v hi => ?_)
  rw [List.getElem?_take] at hi ⊢
  split at hi
  · rename_i hlt; rw [if_pos hlt]; exact h.get i v hi
  · cases hi
theorem VAs.drop {l : List V} {c : List AV} (h : VAs g l c) (n : Nat) : VAs g (l.drop n) (c.drop n) := by
  refine VAs.of_get (by simp [h.length]) (fun i v hi => ?_)
  rw [List.getElem?_drop] at hi ⊢
  exact h.get _ v hi
theorem VAs.splice {l c : List V} {us cs : List AV} (h1 : VAs g l us) (h2 : VAs g c cs) (off : Nat) : VAs g (Go.Abs.splice l off c) (Go.Abs.splice us off cs) := by
  unfold Go.Abs.splice
  rw [h2.length]
  exact ((h1.take off).append h2).append (h1.drop _)

theorem VA.strip1 {v : V} {a : AV} (h : VA g v a) : VA g v.strip1 a := by
  cases h <;> first
    | exact .nils false
    | (constructor <;> assumption)
theorem VAs.strip1 : ∀ {l : List V} {c : List AV}, VAs g l c → VAs g (l.map V.strip1) c
  | _, _, .nil => .nil
  | _, _, .cons _ _ _ _ h k => .cons _ _ _ _ h.strip1 k.strip1
theorem VA.strip {v : V} {a : AV} (h : VA g v a) : VA g v.strip a := by
  cases h with
  | agg l c h => exact .agg _ _ h.strip1
  | undef a => exact .undef a
  | nils own => exact .nils false
  | vec own els b off cap esz vs h1 h2 h3 h4 h5 => exact .vec false els b off cap esz vs h1 h2 h3 h4 h5
  | _ => constructor <;> assumption
theorem VAs.undefs : ∀ (c : List AV), VAs g (List.replicate c.length .undef) c
  | [] => .nil
  | u :: c => .cons _ u _ _ (.undef u) (VAs.undefs c)

theorem ofVal_VA (u : Value) : VA g (ofValV u) (ofVal u) := by
  unfold ofValV ofVal
  split <;> first
    | (constructor; done)
    | (split <;> first | constructor | exact .undef _)
theorem VA.isCell {v : V} {a : AV} (h : VA g v a) (hv : v.isCell = true) : a.isCell = true := by
  cases h <;> first | rfl | simp [V.isCell] at hv
theorem VAs.allCell : ∀ {l : List V} {c : List AV}, VAs g l c → l.all V.isCell = true → c.all AV.isCell = true
  | _, _, .nil, _ => rfl
  | _, _, .cons _ _ _ _ h k, e => by
    simp only [List.all_cons, Bool.and_eq_true] at e ⊢
    exact ⟨h.isCell e.1, k.allCell e.2⟩
theorem VA.isVal {v : V} {a : AV} (h : VA g v a) (hv : v.isVal = true) : a.isVal = true := by
  cases h with
  | agg l c h => exact h.allCell hv
  | _ => first | rfl | simp [V.isVal] at hv
theorem VA.cells {v : V} {a : AV} (h : VA g v a) (hv : v.isVal = true) : VAs g v.cells a.cells := by
  cases h with
  | agg l c h => exact h
  | undef a => simp [V.isVal] at hv
  | tuple l c h => simp [V.isVal] at hv
  | _ => exact .cons _ _ _ _ (by constructor <;> assumption) .nil
theorem V.isVal_cells {v : V} (h : v.isVal = true) : v.cells.all V.isCell = true := by
  cases v <;> simp_all [V.isVal, V.cells, V.isCell]
end

/-! ### Who may be appended to -/
/-- Slice v stands at p, and may be appended to. -/
def Own1 (g : Gh) (H : AH) (Pr : Nat → Prop) (p : Pos) (v : V) (a : AV) : Prop := ∀ els, v = .vec true els →
  (els = [] ∧ a = .nils) ∨ ∃ b off cap esz, a = .slice b off els.length cap esz ∧ ((∃ c, cap = some c ∧ c ≤ els.length) ∨
    (cap = none ∧ els ≠ [] ∧ g.U b = some p ∧ ¬ Pr b ∧ H.oldAt b = false ∧ H.dead.get (H.kinAt b) = none ∧ ∃ vs, H.get b = some (.cells vs true) ∧ off + els.length * esz = vs.length))
def OwnC (g : Gh) (H : AH) (Pr : Nat → Prop) (p : Nat → Pos) (l : List V) (c : List AV) : Prop := ∀ (j : Nat) (v : V) (a : AV), l[j]? = some v → c[j]? = some a → Own1 g H Pr (p j) v a
def OwnV (g : Gh) (H : AH) (Pr : Nat → Prop) (p : Nat → Pos) (v : V) (a : AV) : Prop := OwnC g H Pr p v.cells a.cells
theorem Own1.strip {g : Gh} {H : AH} {Pr : Nat → Prop} {p : Pos} {v : V} {a : AV} : Own1 g H Pr p v.strip1 a := by
  intro els h
  cases v <;> simp [V.strip1] at h
theorem OwnC.strip {g : Gh} {H : AH} {Pr : Nat → Prop} {p : Nat → Pos} {l : List V} {c : List AV} : OwnC g H Pr p (l.map V.strip1) c := by
  intro j v a hv _
  rw [List.getElem?_map] at hv
  cases hl : l[j]? with
  | none => rw [hl] at hv; cases hv
  | some x => rw [hl] at hv; simp only [Option.map_some, Option.some.injEq] at hv; subst hv; exact Own1.strip
theorem V.strip_cells (v : V) : v.strip.cells = v.cells.map V.strip1 := by cases v <;> rfl
theorem OwnV.strip {g : Gh} {H : AH} {Pr : Nat → Prop} {p : Nat → Pos} {v : V} {a : AV} : OwnV g H Pr p v.strip a := by
  unfold OwnV; rw [V.strip_cells]; exact OwnC.strip

/-! ### The state -/
def bytesV (s : List UInt8) : V := .vec true (s.map fun c => [byteCellV c])
def CellsR (g : Gh) (H : AH) (Pr : Nat → Prop) (o b : Nat) (vs : List V) : Prop := ∃ as, H.get b = some (.cells as true) ∧ VAs g vs as ∧ vs.all V.isCell = true ∧ OwnC g H Pr (.cell o) vs as
def ObjR (g : Gh) (H : AH) (Pr : Nat → Prop) (o b : Nat) : VObj → Prop
  | .cells vs => ∃ as, H.get b = some (.cells as true) ∧ VAs g vs as ∧ vs.all V.isCell = true ∧ OwnC g H Pr (.cell o) vs as
  | .amap es => ∃ aes : List (AV × AV), H.get b = some (.amap aes) ∧ aes.length = es.length ∧ ∀ (i : Nat) (k v : V), es[i]? = some (k, v) → ∃ ka va, aes[i]? = some (ka, va) ∧ VA g k ka ∧ VA g v va ∧ v.strip = v
  | .bld t u s => ∃ ad, (ad = .nilp ∨ ad = .ptr o 0) ∧ CellsR g H Pr o b [ad, bytesV s] ∧ H.ty.get b = some (t, some 2) ∧
      ∀ x, H.get b = some x → ∀ a b' off len cap esz, x = .cells [a, .slice b' off len cap esz] true → off = 0 ∧ cap = none ∧ esz = 1 ∧ len = s.length ∧ H.ty.get b' = some (u, none)
  | .dead => True
def Alive (σ : St) (g : Gh) (o b : Nat) : Prop := g.blk o = some b ∧ ∃ x, σ.get o = some x ∧ x ≠ .dead
def VObj.low (n : Nat) : VObj → Prop
  | .cells vs => V.lows n vs = true
  | .amap es => ∀ e ∈ es, e.1.low n = true ∧ e.2.low n = true
  | .bld _ _ _ | .dead => True
mutual
theorem V.low_mono {n m : Nat} (h : n ≤ m) : ∀ (v : V), v.low n = true → v.low m = true
  | .ptr o _, k => by simp only [V.low, decide_eq_true_eq] at k ⊢; omega
  | .sl o _ _ _ _, k => by simp only [V.low, decide_eq_true_eq] at k ⊢; omega
  | .map o, k => by simp only [V.low, decide_eq_true_eq] at k ⊢; omega
  | .agg vs, k => by simp only [V.low] at k ⊢; exact V.lows_mono h vs k
  | .tuple vs, k => by simp only [V.low] at k ⊢; exact V.lows_mono h vs k
  | .ro vs _, k => by simp only [V.low] at k ⊢; exact V.lows_mono h vs k
  | .func _ a b, k => by simp only [V.low, Bool.and_eq_true] at k ⊢; exact ⟨V.lows_mono h a k.1, V.lows_mono h b k.2⟩
  | .vec _ els, k => by simp only [V.low] at k ⊢; exact V.lowss_mono h els k
  | .undef, _ => rfl
  | .int _ _, _ => rfl
  | .bool _, _ => rfl
  | .str _, _ => rfl
  | .nilp, _ => rfl
  | .nilf, _ => rfl
  | .nilm, _ => rfl
theorem V.lows_mono {n m : Nat} (h : n ≤ m) : ∀ (l : List V), V.lows n l = true → V.lows m l = true
  | [], _ => rfl
  | v :: r, k => by simp only [V.lows, Bool.and_eq_true] at k ⊢; exact ⟨V.low_mono h v k.1, V.lows_mono h r k.2⟩
theorem V.lowss_mono {n m : Nat} (h : n ≤ m) : ∀ (l : List (List V)), V.lowss n l = true → V.lowss m l = true
  | [], _ => rfl
  | v :: r, k => by simp only [V.lowss, Bool.and_eq_true] at k ⊢; exact ⟨V.lows_mono h v k.1, V.lowss_mono h r k.2⟩
end
theorem VObj.low_mono {n m : Nat} (h : n ≤ m) {x : VObj} (k : x.low n) : x.low m := by
  cases x with
  | cells vs => exact V.lows_mono h vs k
  | amap es => exact fun e he => ⟨V.low_mono h _ (k e he).1, V.low_mono h _ (k e he).2⟩
  | bld t u s => trivial
  | dead => trivial
theorem lows_iff {n : Nat} : ∀ {l : List V}, V.lows n l = true ↔ ∀ v ∈ l, v.low n = true
  | [] => by simp [V.lows]
  | v :: r => by simp only [V.lows, Bool.and_eq_true, lows_iff (l := r), List.mem_cons, forall_eq_or_imp]
theorem low_strip1 {n : Nat} {v : V} (h : v.low n = true) : v.strip1.low n = true := by cases v <;> exact h
theorem low_strip {n : Nat} {v : V} (h : v.low n = true) : v.strip.low n = true := by
  cases v with
  | agg l =>
    simp only [V.strip, V.low] at h ⊢
    rw [lows_iff] at h ⊢
    intro x hx
    obtain ⟨y, hy, rfl⟩ := List.mem_map.1 hx
    exact low_strip1 (h y hy)
  | _ => exact h
theorem blkO_lt : ∀ {l : List Nat} {k b : Nat}, blkO l k = some b → k < l.length
  | [], k, b, h => by simp [blkO] at h
  | y :: r, k, b, h => by
    rw [blkO] at h
    split at h
    · simp; omega
    · have := blkO_lt h; simp; omega
mutual
theorem VA.isLow {g : Gh} : ∀ {v : V} {a : AV}, VA g v a → v.low g.μ.length = true
  | _, _, .undef _ => rfl
  | _, _, .int _ _ => rfl
  | _, _, .bool _ => rfl
  | _, _, .str _ => rfl
  | _, _, .agg _ _ h => by simp only [V.low]; exact VAs.isLow h
  | _, _, .tuple _ _ h => by simp only [V.low]; exact VAs.isLow h
  | _, _, .ptr _ _ _ h => by simp only [V.low, decide_eq_true_eq]; exact blkO_lt h
  | _, _, .ro _ _ _ _ _ _ _ _ h => by simp only [V.low]; exact VAs.isLow h
  | _, _, .nilp => rfl
  | _, _, .nils _ => rfl
  | _, _, .vec own els b off cap esz vs h1 h2 h3 h4 h5 => by
    have : ∀ (i : Nat) (el : List V), els[i]? = some el → V.lows g.μ.length el = true := fun i el hi => VAs.isLow (h5 i el hi)
    simp only [V.low]
    clear h5 h4 h3
    induction els with
    | nil => rfl
    | cons x r ih =>
      simp only [V.lowss, Bool.and_eq_true]
      exact ⟨this 0 x rfl, ih (fun i el hi => this (i + 1) el (by simpa using hi))⟩
  | _, _, .sl _ _ _ _ _ _ h => by simp only [V.low, decide_eq_true_eq]; exact blkO_lt h
  | _, _, .func _ _ _ _ _ h1 h2 => by simp only [V.low, Bool.and_eq_true]; exact ⟨VAs.isLow h1, VAs.isLow h2⟩
  | _, _, .nilf => rfl
  | _, _, .map _ _ h => by simp only [V.low, decide_eq_true_eq]; exact blkO_lt h
  | _, _, .nilm => rfl
theorem VAs.isLow {g : Gh} : ∀ {l : List V} {c : List AV}, VAs g l c → V.lows g.μ.length l = true
  | _, _, .nil => rfl
  | _, _, .cons _ _ _ _ h k => by simp only [V.lows, Bool.and_eq_true]; exact ⟨VA.isLow h, VAs.isLow k⟩
end
structure SR (g : Gh) (Pr : Nat → Prop) (σ : St) (H : AH) : Prop where
  len : g.μ.length = σ.size
  obj : ∀ o x b, σ.get o = some x → g.blk o = some b → ObjR g H Pr o b x
  fro : ∀ b vs, g.C b = some vs → ∃ own, H.get b = some (.cells vs own)
  pr : ∀ b, Pr b → g.C b ≠ none
  sep : ∀ o b, Alive σ g o b → g.C b = none ∧ H.oldAt b = false
  dist : ∀ o o' b b', Alive σ g o b → Alive σ g o' b' → o ≠ o' → b ≠ b' ∧ H.kinAt b ≠ H.kinAt b'
  kin : ∀ o b j, Alive σ g o b → g.C j ≠ none → H.kinAt j ≠ H.kinAt b
  kinlt : ∀ j, H.get j ≠ none → H.kinAt j < H.next
  low : ∀ b, H.next ≤ b → H.get b = none
  dlow : ∀ k, H.next ≤ k → H.dead.get k = none
  pin : ∀ o x, σ.get o = some x → x.low (max (o + 1) σ.pin)
  blt : ∀ o b, g.blk o = some b → b < H.next
  tlow : ∀ b, H.next ≤ b → H.ty.get b = none
def ER (g : Gh) (H : AH) (Pr : Nat → Prop) (ρ : VEnv) (ρA : Env) : Prop := ∀ t, VA g (ρ t) (ρA t) ∧ OwnV g H Pr (.tmp t) (ρ t) (ρA t)

theorem blkO_some : ∀ {l : List Nat} {k : Nat}, k < l.length → ∃ b, blkO l k = some b
  | [], k, h => by simp at h
  | y :: r, k, h => by
    rw [blkO]
    split
    · exact ⟨_, rfl⟩
    · exact blkO_some (by simp at h; omega)
end Go.Vw
end
section
/- What is kept from state to state. -/
namespace Go.Vw
open Go Go.RowKit Go.Abs

/-- A block stays as it is. -/
structure Keep (H H' : AH) (b : Nat) : Prop where
  get : ∀ x, H.get b = some x → H'.get b = some x
  old : H'.oldAt b = H.oldAt b
  kin : H'.kinAt b = H.kinAt b
  dead : H.dead.get (H.kinAt b) = none → H'.dead.get (H.kinAt b) = none
theorem Keep.refl (H : AH) (b : Nat) : Keep H H b := ⟨fun _ h => h, rfl, rfl, fun h => h⟩
theorem Keep.trans {H1 H2 H3 : AH} {b : Nat} (h : Keep H1 H2 b) (k : Keep H2 H3 b) : Keep H1 H3 b :=
  ⟨fun x hx => k.get x (h.get x hx), k.old.trans h.old, k.kin.trans h.kin, fun hd => by rw [← h.kin]; exact k.dead (by rw [h.kin]; exact h.dead hd)⟩
def Pos.still : Pos → Prop
  | .tmp _ _ | .cell _ _ => True
  | _ => False
/-- What may be appended to, and its place. -/
def UKeep (g g' : Gh) (H H' : AH) : Prop := ∀ b p, g.C b ≠ none → p.still → g.U b = some p → g'.U b = some p ∧ Keep H H' b
theorem UKeep.refl (g : Gh) (H : AH) : UKeep g g H H := fun b p _ _ h => ⟨h, Keep.refl H b⟩

section
variable {g g' : Gh} {H H' : AH} {Pr : Nat → Prop}
theorem Own1.keep {p p' : Pos} {v : V} {a : AV} (hv : VA g v a) (h : Own1 g H Pr p v a) (hU : ∀ b, g.C b ≠ none → g.U b = some p → g'.U b = some p' ∧ Keep H H' b) : Own1 g' H' Pr p' v a := by
  intro els he
  rcases h els he with ⟨h1, h2⟩ | ⟨b, off, cap, esz, h1, h2⟩
  · exact .inl ⟨h1, h2⟩
  · refine .inr ⟨b, off, cap, esz, h1, ?_⟩
    rcases h2 with h2 | ⟨h2, h0, h3, h4, h5, h6, vs, h7, h8⟩
    · exact .inl h2
    · have hc : g.C b ≠ none := by
        subst he; subst h1
        cases hv with
        | vec _ _ _ _ _ _ vs k1 => rw [k1]; simp
      obtain ⟨k1, k2⟩ := hU b hc h3
      exact .inr ⟨h2, h0, k1, h4, by rw [k2.old]; exact h5, by rw [k2.kin]; exact k2.dead h6, vs, k2.get _ h7, h8⟩
theorem OwnC.keep {p p' : Nat → Pos} {l : List V} {c : List AV} (hv : VAs g l c) (h : OwnC g H Pr p l c) (hU : ∀ j b, g.C b ≠ none → g.U b = some (p j) → g'.U b = some (p' j) ∧ Keep H H' b) : OwnC g' H' Pr p' l c := by
  intro j v a g1 g2
  obtain ⟨a', k1, k2⟩ := hv.get j v g1
  rw [g2] at k1
  simp only [Option.some.injEq] at k1
  subst k1
  intro els he
  rcases h j v a g1 g2 els he with ⟨h1, h2⟩ | ⟨b, off, cap, esz, h1, h2⟩
  · exact .inl ⟨h1, h2⟩
  · refine .inr ⟨b, off, cap, esz, h1, ?_⟩
    rcases h2 with h2 | ⟨h2, h0, h3, h4, h5, h6, vs, h7, h8⟩
    · exact .inl h2
    · have hc : g.C b ≠ none := by
        subst he; subst h1
        cases k2 with
        | vec _ _ _ _ _ _ vs k1 => rw [k1]; simp
      obtain ⟨k1, k2⟩ := hU j b hc h3
      exact .inr ⟨h2, h0, k1, h4, by rw [k2.old]; exact h5, by rw [k2.kin]; exact k2.dead h6, vs, k2.get _ h7, h8⟩
theorem VA.cellsAny {v : V} {a : AV} (h : VA g v a) : VAs g v.cells a.cells ∨ v = .undef := by
  cases h with
  | undef a => exact .inr rfl
  | agg l c h => exact .inl h
  | tuple l c h => exact .inl (.cons _ _ _ _ (.tuple l c h) .nil)
  | _ => exact .inl (.cons _ _ _ _ (by constructor <;> assumption) .nil)
theorem OwnV.keep {p p' : Nat → Pos} {v : V} {a : AV} (hv : VA g v a) (h : OwnV g H Pr p v a) (hU : ∀ j b, g.C b ≠ none → g.U b = some (p j) → g'.U b = some (p' j) ∧ Keep H H' b) : OwnV g' H' Pr p' v a := by
  rcases hv.cellsAny with k | k
  · exact OwnC.keep k h hU
  · subst k
    intro j v a h1 h2 els he
    subst he
    cases j <;> simp [V.cells] at h1
theorem ER.keep {ρ : VEnv} {ρA : Env} (h : ER g H Pr ρ ρA) (hl : g.Le g') (hU : UKeep g g' H H') : ER g' H' Pr ρ ρA := fun t =>
  ⟨(h t).1.mono hl, (h t).2.keep (h t).1 (fun j b hc hu => hU b _ hc trivial hu)⟩
theorem ObjR.keep {o b : Nat} {x : VObj} (h : ObjR g H Pr o b x) (hl : g.Le g') (hU : ∀ c j, g.C c ≠ none → g.U c = some (.cell o j) → g'.U c = some (.cell o j) ∧ Keep H H' c) (hg : H'.get b = H.get b) (ht : ∀ c t, H.ty.get c = some t → H'.ty.get c = some t) : ObjR g' H' Pr o b x := by
  cases x with
  | cells vs =>
    obtain ⟨as, h1, h2, h3, h4⟩ := h
    exact ⟨as, by rw [hg]; exact h1, h2.mono hl, h3, h4.keep h2 (fun j b hc hu => hU b _ hc hu)⟩
  | amap es =>
    obtain ⟨aes, h1, h2, h3⟩ := h
    refine ⟨aes, by rw [hg]; exact h1, h2, fun i k v hi => ?_⟩
    obtain ⟨ka, va, k1, k2, k3, k4⟩ := h3 i k v hi
    exact ⟨ka, va, k1, k2.mono hl, k3.mono hl, k4⟩
  | bld t u s =>
    obtain ⟨ad, h1, ⟨as, e1, e2, e3, e4⟩, h3, h4⟩ := h
    exact ⟨ad, h1, ⟨as, by rw [hg]; exact e1, e2.mono hl, e3, e4.keep e2 (fun j b hc hu => hU b _ hc hu)⟩, ht _ _ h3, fun x hx a b' off len cap esz e => by
      obtain ⟨k1, k2, k3, k4, k5⟩ := h4 x (by rw [← hg]; exact hx) a b' off len cap esz e
      exact ⟨k1, k2, k3, k4, ht _ _ k5⟩⟩
  | dead => trivial
theorem ObjR.isLow {o b : Nat} {x : VObj} (h : ObjR g H Pr o b x) : x.low g.μ.length := by
  cases x with
  | cells vs => obtain ⟨as, _, h2, _⟩ := h; exact h2.isLow
  | amap es =>
    obtain ⟨aes, _, _, h3⟩ := h
    intro e he
    obtain ⟨i, hi⟩ := List.getElem?_of_mem he
    obtain ⟨ka, va, _, k2, k3, _⟩ := h3 i e.1 e.2 hi
    exact ⟨k2.isLow, k3.isLow⟩
  | bld t u s => trivial
  | dead => trivial
theorem ObjR.some {o b : Nat} {x : VObj} (h : ObjR g H Pr o b x) (hx : x ≠ .dead) : H.get b ≠ none := by
  cases x with
  | cells vs => obtain ⟨as, h1, _⟩ := h; rw [h1]; simp
  | amap es => obtain ⟨aes, h1, _⟩ := h; rw [h1]; simp
  | bld t u s => obtain ⟨_, _, ⟨as, h1, _⟩, _⟩ := h; rw [h1]; simp
  | dead => exact absurd rfl hx
variable {σ : St}
theorem SR.alive (h : SR g Pr σ H) {o b : Nat} (ha : Alive σ g o b) : H.get b ≠ none := by
  obtain ⟨h1, x, h2, h3⟩ := ha
  exact (h.obj o x b h2 h1).some h3
theorem SR.alt (h : SR g Pr σ H) {o b : Nat} (ha : Alive σ g o b) : b < H.next := by
  rcases Nat.lt_or_ge b H.next with k | k
  · exact k
  · exact absurd (h.low b k) (h.alive ha)
theorem SR.Clt (h : SR g Pr σ H) {b : Nat} {vs : List AV} (hc : g.C b = some vs) : b < H.next := by
  rcases Nat.lt_or_ge b H.next with k | k
  · exact k
  · obtain ⟨own, e⟩ := h.fro b vs hc; rw [h.low b k] at e; cases e
theorem SR.Cnone (h : SR g Pr σ H) {b : Nat} (hb : H.next ≤ b) : g.C b = none := by
  cases e : g.C b with
  | none => rfl
  | some vs => have := h.Clt e; omega

/-- Only who owns what turns. -/
theorem SR.own (h : SR g Pr σ H) (hm : g'.μ = g.μ) (hC : g'.C = g.C) (hU : ∀ b o j, g.U b = some (.cell o j) → g'.U b = some (.cell o j)) : SR g' Pr σ H := by
  have hb : ∀ o, g'.blk o = g.blk o := fun o => by unfold Gh.blk; rw [hm]
  have hl : g.Le g' := ⟨fun o b e => by rw [hb]; exact e, fun b vs e => by rw [hC]; exact e⟩
  have ha : ∀ o b, Alive σ g' o b → Alive σ g o b := fun o b ⟨h1, h2⟩ => ⟨by rw [← hb]; exact h1, h2⟩
  exact ⟨by rw [hm]; exact h.len, fun o x b h1 h2 => (h.obj o x b h1 (by rw [← hb]; exact h2)).keep hl (fun c j _ hu => ⟨hU c o j hu, Keep.refl H c⟩) rfl (fun _ _ h => h), fun b vs e => h.fro b vs (by rw [← hC]; exact e), fun b hp => by rw [hC]; exact h.pr b hp,
    fun o b k => by rw [hC]; exact h.sep o b (ha o b k), fun o o' b b' k k' => h.dist o o' b b' (ha o b k) (ha o' b' k'), fun o b j k e => h.kin o b j (ha o b k) (by rw [← hC]; exact e), h.kinlt, h.low, h.dlow, h.pin, fun o b e => h.blt o b (by rw [← hb]; exact e), h.tlow⟩

theorem keep_add (h : SR g Pr σ H) (x : AObj) {b : Nat} (hb : b ≠ H.next) : Keep H (H.add x) b :=
  ⟨fun y hy => by rw [AH.get_add, if_neg hb]; exact hy, by rw [AH.oldAt_add, if_neg hb], by rw [AH.kinAt_add, if_neg hb], fun hd => hd⟩

/-- A new block, that is an object's. -/
theorem SR.addObj (h : SR g Pr σ H) {x : VObj} {ax : AObj} (U' : Nat → Option Pos) (hU : ∀ b p, g.C b ≠ none → p.still → g.U b = some p → U' b = some p) (hx : ObjR ⟨H.next :: g.μ, g.C, U'⟩ (H.add ax) Pr σ.size H.next x) :
    SR ⟨H.next :: g.μ, g.C, U'⟩ Pr (σ.push x) (H.add ax) ∧ g.Le ⟨H.next :: g.μ, g.C, U'⟩ ∧ UKeep g ⟨H.next :: g.μ, g.C, U'⟩ H (H.add ax) ∧ Gh.blk ⟨H.next :: g.μ, g.C, U'⟩ σ.size = some H.next := by
  have hlen := h.len
  have hb : ∀ o, Gh.blk ⟨H.next :: g.μ, g.C, U'⟩ o = if o = σ.size then some H.next else g.blk o := fun o => by
    show blkO (_ :: _) o = _
    rw [blkO, hlen]; rfl
  have hl : g.Le ⟨H.next :: g.μ, g.C, U'⟩ := ⟨fun o b e => by
    rw [hb]
    have : o < g.μ.length := blkO_lt e
    rw [if_neg (by omega)]
    exact e, fun b vs e => e⟩
  have hUK : UKeep g ⟨H.next :: g.μ, g.C, U'⟩ H (H.add ax) := fun b p hc hs hu => ⟨hU b p hc hs hu, keep_add h ax (fun e => by
    subst e; exact hc (h.Cnone (Nat.le_refl _)))⟩
  have hg : ∀ o, (σ.push x).get o = if o = σ.size then some x else σ.get o := fun o => rfl
  have ha : ∀ o b, Alive (σ.push x) ⟨H.next :: g.μ, g.C, U'⟩ o b → (o = σ.size ∧ b = H.next) ∨ (o ≠ σ.size ∧ b ≠ H.next ∧ Alive σ g o b) := by
    rintro o b ⟨h1, y, h2, h3⟩
    rw [hb] at h1
    rw [hg] at h2
    by_cases e : o = σ.size
    · rw [if_pos e] at h1
      simp only [Option.some.injEq] at h1
      exact .inl ⟨e, h1.symm⟩
    · rw [if_neg e] at h1 h2
      have hal : Alive σ g o b := ⟨h1, y, h2, h3⟩
      exact .inr ⟨e, fun e2 => by have := h.alt hal; omega, hal⟩
  refine ⟨⟨?_, ?_, ?_, h.pr, ?_, ?_, ?_, ?_, ?_, fun k hk => h.dlow k (Nat.le_of_succ_le hk), fun o y hy => ?_, fun o b e => ?_, fun b hb => h.tlow b (Nat.le_of_succ_le hb)⟩, hl, hUK, by rw [hb, if_pos rfl]⟩
  · show g.μ.length + 1 = σ.objs.length + 1
    rw [hlen]; rfl
  · intro o y b h1 h2
    rw [hb] at h2
    rw [hg] at h1
    by_cases e : o = σ.size
    · rw [if_pos e] at h1 h2
      simp only [Option.some.injEq] at h1 h2
      subst h1; subst h2; subst e
      exact hx
    · rw [if_neg e] at h1 h2
      by_cases hd : y = .dead
      · subst hd; trivial
      · have hal : Alive σ g o b := ⟨h2, y, h1, hd⟩
        refine (h.obj o y b h1 h2).keep hl (fun c j hc hu => hUK c _ hc trivial hu) ?_ (fun _ _ h => h)
        rw [AH.get_add, if_neg (by have := h.alt hal; omega)]
  · intro b vs e
    obtain ⟨own, e1⟩ := h.fro b vs e
    exact ⟨own, by rw [AH.get_add, if_neg (by have := h.Clt e; omega)]; exact e1⟩
  · intro o b hal
    rcases ha o b hal with ⟨_, rfl⟩ | ⟨_, e, hal⟩
    · exact ⟨h.Cnone (Nat.le_refl _), by rw [AH.oldAt_add, if_pos rfl]⟩
    · rw [AH.oldAt_add, if_neg e]; exact h.sep o b hal
  · intro o o' b b' hal hal' hne
    rcases ha o b hal with ⟨e1, rfl⟩ | ⟨e1, e2, hal⟩ <;> rcases ha o' b' hal' with ⟨e1', rfl⟩ | ⟨e1', e2', hal'⟩
    · omega
    · refine ⟨fun e => e2' e.symm, ?_⟩
      rw [AH.kinAt_add, AH.kinAt_add, if_pos rfl, if_neg e2']
      have := h.kinlt b' (h.alive hal'); omega
    · refine ⟨e2, ?_⟩
      rw [AH.kinAt_add, AH.kinAt_add, if_pos rfl, if_neg e2]
      have := h.kinlt b (h.alive hal); omega
    · rw [AH.kinAt_add, AH.kinAt_add, if_neg e2, if_neg e2']
      exact h.dist o o' b b' hal hal' hne
  · intro o b j hal hc
    have hj : j ≠ H.next := fun e => by subst e; exact hc (h.Cnone (Nat.le_refl _))
    rw [AH.kinAt_add, AH.kinAt_add, if_neg hj]
    rcases ha o b hal with ⟨_, rfl⟩ | ⟨_, e, hal⟩
    · rw [if_pos rfl]
      have : H.get j ≠ none := by
        cases e : g.C j with
        | none => exact absurd e hc
        | some vs => obtain ⟨own, e1⟩ := h.fro j vs e; rw [e1]; simp
      have := h.kinlt j this; omega
    · rw [if_neg e]; exact h.kin o b j hal hc
  · intro j hj
    rw [AH.kinAt_add]
    rw [AH.get_add] at hj
    show _ < H.next + 1
    by_cases e : j = H.next
    · rw [if_pos e]; omega
    · rw [if_neg e] at hj ⊢; have := h.kinlt j hj; omega
  · intro b hb'
    have : H.next + 1 ≤ b := hb'
    rw [AH.get_add, if_neg (by omega)]
    exact h.low b (by omega)
  · rw [hg] at hy
    by_cases e : o = σ.size
    · rw [if_pos e] at hy
      simp only [Option.some.injEq] at hy
      subst hy; subst e
      have hlx := hx.isLow
      rw [show (H.next :: g.μ).length = σ.size + 1 by rw [List.length_cons, hlen]] at hlx
      exact VObj.low_mono (Nat.le_max_left _ _) hlx
    · rw [if_neg e] at hy; exact h.pin o y hy
  · rw [hb] at e
    show b < H.next + 1
    by_cases e2 : o = σ.size
    · rw [if_pos e2] at e; simp only [Option.some.injEq] at e; omega
    · rw [if_neg e2] at e; have := h.blt o b e; omega

/-- A new block that nobody writes. -/
theorem SR.addC (h : SR g Pr σ H) (vs : List AV) (U' : Nat → Option Pos) (hU : ∀ b p, g.C b ≠ none → p.still → g.U b = some p → U' b = some p) :
    SR ⟨g.μ, fun b => if b = H.next then some vs else g.C b, U'⟩ Pr σ (H.add (.cells vs true)) ∧ g.Le ⟨g.μ, fun b => if b = H.next then some vs else g.C b, U'⟩ ∧ UKeep g ⟨g.μ, fun b => if b = H.next then some vs else g.C b, U'⟩ H (H.add (.cells vs true)) := by
  have hl : g.Le ⟨g.μ, fun b => if b = H.next then some vs else g.C b, U'⟩ := ⟨fun o b e => e, fun b ws e => by
    show (if b = H.next then some vs else g.C b) = some ws
    rw [if_neg (by have := h.Clt e; omega)]; exact e⟩
  have hUK : UKeep g ⟨g.μ, fun b => if b = H.next then some vs else g.C b, U'⟩ H (H.add (.cells vs true)) := fun b p hc hs hu => ⟨hU b p hc hs hu, keep_add h _ (fun e => by
    subst e; exact hc (h.Cnone (Nat.le_refl _)))⟩
  have ha : ∀ o b, Alive σ ⟨g.μ, fun b => if b = H.next then some vs else g.C b, U'⟩ o b → Alive σ g o b := fun o b k => k
  refine ⟨⟨h.len, ?_, ?_, ?_, ?_, ?_, ?_, ?_, ?_, fun k hk => h.dlow k (Nat.le_of_succ_le hk), h.pin, fun o b e => Nat.lt_succ_of_lt (h.blt o b e), fun b hb => h.tlow b (Nat.le_of_succ_le hb)⟩, hl, hUK⟩
  · intro o y b h1 h2
    by_cases hd : y = .dead
    · subst hd; trivial
    · have hal : Alive σ g o b := ⟨h2, y, h1, hd⟩
      refine (h.obj o y b h1 h2).keep hl (fun c j hc hu => hUK c _ hc trivial hu) ?_ (fun _ _ h => h)
      rw [AH.get_add, if_neg (by have := h.alt hal; omega)]
  · intro b ws e
    simp only at e
    rw [AH.get_add]
    by_cases e2 : b = H.next
    · rw [if_pos e2] at e ⊢
      simp only [Option.some.injEq] at e
      subst e
      exact ⟨true, rfl⟩
    · rw [if_neg e2] at e ⊢
      exact h.fro b ws e
  · intro b hp
    simp only
    split
    · simp
    · exact h.pr b hp
  · intro o b hal
    have hlt := h.alt (ha o b hal)
    simp only
    rw [if_neg (by omega), AH.oldAt_add, if_neg (by omega)]
    exact h.sep o b (ha o b hal)
  · intro o o' b b' hal hal' hne
    have hlt := h.alt (ha o b hal)
    have hlt' := h.alt (ha o' b' hal')
    rw [AH.kinAt_add, AH.kinAt_add, if_neg (by omega), if_neg (by omega)]
    exact h.dist o o' b b' (ha o b hal) (ha o' b' hal') hne
  · intro o b j hal hc
    have hlt := h.alt (ha o b hal)
    rw [AH.kinAt_add, AH.kinAt_add, if_neg (by omega : b ≠ H.next)]
    simp only at hc
    by_cases e : j = H.next
    · rw [if_pos e]
      have := h.kinlt b (h.alive (ha o b hal)); omega
    · rw [if_neg e] at hc ⊢
      exact h.kin o b j (ha o b hal) hc
  · intro j hj
    rw [AH.kinAt_add]
    rw [AH.get_add] at hj
    show _ < H.next + 1
    by_cases e : j = H.next
    · rw [if_pos e]; omega
    · rw [if_neg e] at hj ⊢; have := h.kinlt j hj; omega
  · intro b hb'
    have : H.next + 1 ≤ b := hb'
    rw [AH.get_add, if_neg (by omega)]
    exact h.low b (by omega)

theorem get_put (σ : St) {o : Nat} {y : VObj} (h : σ.get o = some y) (x : VObj) (j : Nat) : (σ.put o x).get j = if j = o then some x else σ.get j := by
  show getO (putO σ.objs o x) j = _
  rw [getO_putO]
  split
  · rename_i e
    subst e
    have : getO σ.objs j = some y := h
    rw [this]; rfl
  · rfl

/-- An object's cells are written. -/
theorem SR.write (h : SR g Pr σ H) {o b : Nat} {vs vs' : List V} {as as' : List AV} (hs : σ.get o = some (.cells vs)) (hb : g.blk o = some b) (hH : H.get b = some (.cells as true)) (hm : g'.μ = g.μ) (hC : g'.C = g.C)
    (hU : ∀ c p, g.C c ≠ none → p.still → (∀ j, p ≠ .cell o j) → g.U c = some p → g'.U c = some p) (h1 : VAs g vs' as') (h2 : vs'.all V.isCell = true) (h3 : OwnC g' (H.wput b (.cells as' true)) Pr (.cell o) vs' as') (pin : Nat) (hpin : σ.pin ≤ pin) (hlow : V.lows (max (o + 1) pin) vs' = true) :
    SR g' Pr ⟨putO σ.objs o (.cells vs'), pin⟩ (H.wput b (.cells as' true)) ∧ g.Le g' ∧ (∀ c, g.C c ≠ none → Keep H (H.wput b (.cells as' true)) c) ∧ (∀ o' b', Alive σ g o' b' → o' ≠ o → (H.wput b (.cells as' true)).get b' = H.get b') := by
  have hbk : ∀ o, g'.blk o = g.blk o := fun o => by unfold Gh.blk; rw [hm]
  have hl : g.Le g' := ⟨fun o b e => by rw [hbk]; exact e, fun b vs e => by rw [hC]; exact e⟩
  have halo : Alive σ g o b := ⟨hb, _, hs, fun e => by cases e⟩
  obtain ⟨hcb, hold⟩ := h.sep o b halo
  have hget := AH.get_wput H hH hold (.cells as' true)
  have hkc : ∀ c, g.C c ≠ none → Keep H (H.wput b (.cells as' true)) c := by
    intro c hc
    have hkin := h.kin o b c halo hc
    have hcb' : c ≠ b := fun e => by subst e; exact hc hcb
    refine ⟨fun x hx => ?_, AH.oldAt_wput _ _ _ _, AH.kinAt_wput _ _ _ _, fun hd => ?_⟩
    · rw [hget, if_neg hcb', if_neg (fun k => hkin k.2)]; exact hx
    · show ((H.put b _).kill b).dead.get _ = none
      rw [AH.dead_kill, AH.kinAt_put _ _ _ _ (fun _ => rfl), if_neg hkin]
      exact hd
  have hoth : ∀ o' b', Alive σ g o' b' → o' ≠ o → (H.wput b (.cells as' true)).get b' = H.get b' := by
    intro o' b' hal hne
    obtain ⟨d1, d2⟩ := h.dist o' o b' b hal halo hne
    rw [hget, if_neg d1, if_neg (fun k => d2 k.2)]
  have hsg : ∀ j, St.get ⟨putO σ.objs o (.cells vs'), pin⟩ j = if j = o then some (.cells vs') else σ.get j := fun j => get_put σ hs _ j
  have ha : ∀ o' b', Alive ⟨putO σ.objs o (.cells vs'), pin⟩ g' o' b' → Alive σ g o' b' := by
    rintro o' b' ⟨k1, x, k2, k3⟩
    rw [hbk] at k1
    rw [hsg] at k2
    by_cases e : o' = o
    · subst e; rw [hb] at k1; simp only [Option.some.injEq] at k1; subst k1; exact halo
    · rw [if_neg e] at k2; exact ⟨k1, x, k2, k3⟩
  refine ⟨⟨?_, ?_, ?_, fun b hp => by rw [hC]; exact h.pr b hp, ?_, ?_, ?_, ?_, ?_, ?_, fun o' y hy => by
    rw [hsg] at hy
    by_cases e : o' = o
    · rw [if_pos e] at hy; simp only [Option.some.injEq] at hy; subst hy; subst e; exact hlow
    · rw [if_neg e] at hy; exact VObj.low_mono (by show max _ σ.pin ≤ max _ pin; omega) (h.pin o' y hy), fun o b e => h.blt o b (by rw [← hbk]; exact e), h.tlow⟩, hl, hkc, hoth⟩
  · show g'.μ.length = (putO σ.objs o _).length
    rw [length_putO, hm]; exact h.len
  · intro o' x b' k1 k2
    rw [hbk] at k2
    rw [hsg] at k1
    by_cases e : o' = o
    · subst e
      rw [if_pos rfl] at k1
      rw [hb] at k2
      simp only [Option.some.injEq] at k1 k2
      subst k1; subst k2
      exact ⟨as', by rw [hget, if_pos rfl], h1.mono hl, h2, h3⟩
    · rw [if_neg e] at k1
      by_cases hd : x = .dead
      · subst hd; trivial
      · have hal : Alive σ g o' b' := ⟨k2, x, k1, hd⟩
        have hr := h.obj o' x b' k1 k2
        exact hr.keep hl (fun c j hc hu => ⟨hU c _ hc trivial (fun j' e' => by cases e'; exact e rfl) hu, hkc c hc⟩) (hoth o' b' hal e) (fun _ _ h => h)
  · intro c ws e
    rw [hC] at e
    obtain ⟨own, e1⟩ := h.fro c ws e
    exact ⟨own, (hkc c (by rw [e]; simp)).get _ e1⟩
  · intro o' b' hal
    rw [hC, AH.oldAt_wput]; exact h.sep o' b' (ha o' b' hal)
  · intro o1 o2 b1 b2 k1 k2 hne
    rw [AH.kinAt_wput, AH.kinAt_wput]; exact h.dist o1 o2 b1 b2 (ha _ _ k1) (ha _ _ k2) hne
  · intro o' b' j k hc
    rw [AH.kinAt_wput, AH.kinAt_wput]
    exact h.kin o' b' j (ha _ _ k) (by rw [← hC]; exact hc)
  · intro j hj
    rw [AH.kinAt_wput]
    show _ < H.next
    refine h.kinlt j (fun e => hj ?_)
    rw [hget]
    by_cases e2 : j = b
    · subst e2; rw [hH] at e; cases e
    · rw [if_neg e2, e]; simp
  · intro j hj
    have hj' : H.next ≤ j := hj
    rw [hget, if_neg (by have := h.alt halo; omega)]
    split
    · rfl
    · exact h.low j hj'
  · intro k hk
    have hk' : H.next ≤ k := hk
    show ((H.put b _).kill b).dead.get _ = none
    rw [AH.dead_kill, AH.kinAt_put _ _ _ _ (fun _ => rfl), if_neg (by have := h.kinlt b (h.alive halo); omega)]
    exact h.dlow k hk'

/-- An object is seen otherwise. -/
theorem SR.swap (h : SR g Pr σ H) {o b : Nat} {x y : VObj} (hs : σ.get o = some x) (hx : x ≠ .dead) (hb : g.blk o = some b) (hy : ObjR g H Pr o b y) (hlow : y.low (max (o + 1) σ.pin)) : SR g Pr (σ.put o y) H := by
  have halo : Alive σ g o b := ⟨hb, _, hs, hx⟩
  have hsg : ∀ j, (σ.put o y).get j = if j = o then some y else σ.get j := fun j => get_put σ hs _ j
  have ha : ∀ o' b', Alive (σ.put o y) g o' b' → Alive σ g o' b' := by
    rintro o' b' ⟨k1, z, k2, k3⟩
    rw [hsg] at k2
    by_cases e : o' = o
    · subst e; rw [hb] at k1; simp only [Option.some.injEq] at k1; subst k1; exact halo
    · rw [if_neg e] at k2; exact ⟨k1, z, k2, k3⟩
  refine ⟨?_, ?_, h.fro, h.pr, fun o' b' hal => h.sep o' b' (ha o' b' hal), fun o1 o2 b1 b2 k1 k2 hne => h.dist o1 o2 b1 b2 (ha _ _ k1) (ha _ _ k2) hne,
    fun o' b' j k hc => h.kin o' b' j (ha _ _ k) hc, h.kinlt, h.low, h.dlow, fun o' z hz => by
      rw [hsg] at hz
      by_cases e : o' = o
      · rw [if_pos e] at hz; simp only [Option.some.injEq] at hz; subst hz; subst e; exact hlow
      · rw [if_neg e] at hz; exact h.pin o' z hz, h.blt, h.tlow⟩
  · show g.μ.length = (putO σ.objs o _).length
    rw [length_putO]; exact h.len
  · intro o' z b' k1 k2
    rw [hsg] at k1
    by_cases e : o' = o
    · subst e
      rw [if_pos rfl] at k1
      rw [hb] at k2
      simp only [Option.some.injEq] at k1 k2
      subst k1; subst k2
      exact hy
    · rw [if_neg e] at k1
      exact h.obj o' z b' k1 k2
/-- A block's type is told. -/
theorem Keep.tag (H : AH) (b : Nat) (t : TypeId × Option Nat) (c : Nat) : Keep H (H.tag b t) c :=
  ⟨fun x hx => by rw [AH.tag_get]; exact hx, AH.tag_oldAt .., AH.tag_kinAt .., fun hd => by rw [AH.tag_dead]; exact hd⟩
theorem SR.tag (h : SR g Pr σ H) {b : Nat} (hb : b < H.next) (t : TypeId × Option Nat) : SR g Pr σ (H.tag b t) :=
  ⟨h.len, fun o x c h1 h2 => (h.obj o x c h1 h2).keep (Gh.Le.refl g) (fun c _ _ hu => ⟨hu, Keep.tag H b t c⟩) (AH.tag_get ..) (fun _ _ k => AH.tag_mono k), fun c vs e => by rw [AH.tag_get]; exact h.fro c vs e, h.pr,
   fun o c hal => by rw [AH.tag_oldAt]; exact h.sep o c hal, fun o o' c c' k k' hne => by rw [AH.tag_kinAt, AH.tag_kinAt]; exact h.dist o o' c c' k k' hne,
   fun o c j k e => by rw [AH.tag_kinAt, AH.tag_kinAt]; exact h.kin o c j k e, fun j e => by rw [AH.tag_get] at e; rw [AH.tag_kinAt, AH.tag_next]; exact h.kinlt j e,
   fun c hc => by rw [AH.tag_next] at hc; rw [AH.tag_get]; exact h.low c hc, fun k hk => by rw [AH.tag_next] at hk; rw [AH.tag_dead]; exact h.dlow k hk, h.pin,
   fun o c e => by rw [AH.tag_next]; exact h.blt o c e, fun c hc => by
    rw [AH.tag_next] at hc
    rw [AH.tag_ty, if_neg (fun k => by have := k.2; omega)]
    exact h.tlow c hc⟩
theorem ER.tag {ρ : VEnv} {ρA : Env} (h : ER g H Pr ρ ρA) (b : Nat) (t : TypeId × Option Nat) : ER g (H.tag b t) Pr ρ ρA := h.keep (Gh.Le.refl g) (fun c _ _ _ hu => ⟨hu, Keep.tag H b t c⟩)
theorem OwnV.tag {p : Nat → Pos} {v : V} {a : AV} (hv : VA g v a) (h : OwnV g H Pr p v a) (b : Nat) (t : TypeId × Option Nat) : OwnV g (H.tag b t) Pr p v a := h.keep hv (fun _ c _ hu => ⟨hu, Keep.tag H b t c⟩)

/-- An object's cells are seen otherwise. -/
theorem SR.reobj (h : SR g Pr σ H) {o b : Nat} {vs vs' : List V} {as : List AV} (hs : σ.get o = some (.cells vs)) (hb : g.blk o = some b) (hH : H.get b = some (.cells as true)) (hm : g'.μ = g.μ) (hC : g'.C = g.C)
    (hU : ∀ c o' j, o' ≠ o → g.U c = some (.cell o' j) → g'.U c = some (.cell o' j)) (h1 : VAs g vs' as) (h2 : vs'.all V.isCell = true) (h3 : OwnC g' H Pr (.cell o) vs' as) (hlow : V.lows (max (o + 1) σ.pin) vs' = true) :
    SR g' Pr (σ.put o (.cells vs')) H ∧ g.Le g' := by
  have hbk : ∀ o, g'.blk o = g.blk o := fun o => by unfold Gh.blk; rw [hm]
  have hl : g.Le g' := ⟨fun o b e => by rw [hbk]; exact e, fun b vs e => by rw [hC]; exact e⟩
  have halo : Alive σ g o b := ⟨hb, _, hs, fun e => by cases e⟩
  have hsg : ∀ j, (σ.put o (.cells vs')).get j = if j = o then some (.cells vs') else σ.get j := fun j => get_put σ hs _ j
  have ha : ∀ o' b', Alive (σ.put o (.cells vs')) g' o' b' → Alive σ g o' b' := by
    rintro o' b' ⟨k1, x, k2, k3⟩
    rw [hbk] at k1
    rw [hsg] at k2
    by_cases e : o' = o
    · subst e; rw [hb] at k1; simp only [Option.some.injEq] at k1; subst k1; exact halo
    · rw [if_neg e] at k2; exact ⟨k1, x, k2, k3⟩
  refine ⟨⟨?_, ?_, fun c ws e => h.fro c ws (by rw [← hC]; exact e), fun b hp => by rw [hC]; exact h.pr b hp, fun o' b' hal => by rw [hC]; exact h.sep o' b' (ha o' b' hal), fun o1 o2 b1 b2 k1 k2 hne => h.dist o1 o2 b1 b2 (ha _ _ k1) (ha _ _ k2) hne,
    fun o' b' j k hc => h.kin o' b' j (ha _ _ k) (by rw [← hC]; exact hc), h.kinlt, h.low, h.dlow, fun o' y hy => by
      rw [hsg] at hy
      by_cases e : o' = o
      · rw [if_pos e] at hy; simp only [Option.some.injEq] at hy; subst hy; subst e; exact hlow
      · rw [if_neg e] at hy; exact h.pin o' y hy, fun o b e => h.blt o b (by rw [← hbk]; exact e), h.tlow⟩, hl⟩
  · show g'.μ.length = (putO σ.objs o _).length
    rw [length_putO, hm]; exact h.len
  · intro o' x b' k1 k2
    rw [hbk] at k2
    rw [hsg] at k1
    by_cases e : o' = o
    · subst e
      rw [if_pos rfl] at k1
      rw [hb] at k2
      simp only [Option.some.injEq] at k1 k2
      subst k1; subst k2
      exact ⟨as, hH, h1.mono hl, h2, h3⟩
    · rw [if_neg e] at k1
      exact (h.obj o' x b' k1 k2).keep hl (fun c j _ hu => ⟨hU c o' j e hu, Keep.refl H c⟩) rfl (fun _ _ h => h)
end
end Go.Vw
end
section
/- Operands, and what is taken. -/
namespace Go.Vw
open Go Go.RowKit Go.Abs

section
variable {P : Program} {g : Gh} {H : AH} {Pr : Nat → Prop} {σ : St} {ρ : VEnv} {ρA : Env}

theorem ofVals_VA : ∀ (c : List Value), VAs g (c.map ofValV) (c.map ofVal)
  | [] => .nil
  | u :: c => .cons _ _ _ _ (ofVal_VA u) (ofVals_VA c)
theorem ofConst_VA (u : Value) : VA g (ofConstV u) (ofConst u) := by
  unfold ofConstV ofConst
  split
  · exact .agg _ _ (ofVals_VA _)
  · rename_i h
    split
    · rename_i cs; exact absurd rfl (h cs)
    · exact ofVal_VA u
theorem Own1.nils {p : Pos} {u : Value} : Own1 g H Pr p (ofValV u) (ofVal u) := by
  intro els h
  unfold ofValV at h
  split at h <;> first
    | (cases h; done)
    | (simp only [V.vec.injEq, true_and] at h
       subst h
       exact .inl ⟨rfl, rfl⟩)
theorem OwnC.vals {p : Nat → Pos} (c : List Value) : OwnC g H Pr p (c.map ofValV) (c.map ofVal) := by
  intro j v a h1 h2
  rw [List.getElem?_map] at h1 h2
  cases e : c[j]? with
  | none => rw [e] at h1; cases h1
  | some u =>
    rw [e] at h1 h2
    simp only [Option.map_some, Option.some.injEq] at h1 h2
    subst h1; subst h2
    exact Own1.nils
theorem OwnC.one {p : Nat → Pos} {v : V} {a : AV} (h : Own1 g H Pr (p 0) v a) : OwnC g H Pr p [v] [a] := by
  intro j v' a' h1 h2
  cases j with
  | zero => simp only [List.getElem?_cons_zero, Option.some.injEq] at h1 h2; subst h1; subst h2; exact h
  | succ j => simp at h1
theorem OwnV.const {p : Nat → Pos} (u : Value) : OwnV g H Pr p (ofConstV u) (ofConst u) := by
  cases u with
  | agg cs => exact OwnC.vals cs.toList
  | _ =>
    unfold OwnV ofConstV ofConst
    simp only
    intro j v a h1 h2
    have key : ∀ u : Value, (ofValV u).cells = [ofValV u] ∧ (ofVal u).cells = [ofVal u] := by
      intro u
      constructor
      · unfold ofValV; split <;> rfl
      · unfold ofVal; split <;> rfl
    rw [(key _).1] at h1
    rw [(key _).2] at h2
    exact OwnC.one Own1.nils j v a h1 h2
theorem OwnV.noown {p : Nat → Pos} {v : V} {a : AV} (h : ∀ els, V.vec true els ∉ v.cells) : OwnV g H Pr p v a := by
  intro j v' a' h1 _ els he
  subst he
  exact absurd (List.mem_of_getElem? h1) (h els)

theorem evalV_VA (hE : ER g H Pr ρ ρA) (x : Operand) : VA g (evalV ρ x) (evalE ρA x) := by
  cases x with
  | tmp t => exact (hE t).1
  | const v => exact ofConst_VA v
  | global n => exact .undef _
  | func f => exact .func f [] [] [] [] .nil .nil
theorem evalC_VA (hE : ER g H Pr ρ ρA) (x : Operand) : VA g (evalC ρ x) (evalE ρA x) := (evalV_VA hE x).strip
theorem evalVs_VA (hE : ER g H Pr ρ ρA) : ∀ l : List Operand, VAs g (l.map (evalV ρ)) (l.map (evalE ρA))
  | [] => .nil
  | x :: l => .cons _ _ _ _ (evalV_VA hE x) (evalVs_VA hE l)
theorem evalCs_VA (hE : ER g H Pr ρ ρA) : ∀ l : List Operand, VAs g (l.map (evalC ρ)) (l.map (evalE ρA))
  | [] => .nil
  | x :: l => .cons _ _ _ _ (evalC_VA hE x) (evalCs_VA hE l)

def reU (U : Nat → Option Pos) (f : Pos → Pos) : Nat → Option Pos := fun b => (U b).map f
theorem reU_some {U : Nat → Option Pos} {f : Pos → Pos} {b : Nat} {p : Pos} (h : U b = some p) : reU U f b = some (f p) := by unfold reU; rw [h]; rfl

structure Grab (g g' : Gh) (H : AH) (Pr : Nat → Prop) (σ : St) (ρ1 : VEnv) (ρA : Env) (v : V) (a : AV) : Prop where
  μ : g'.μ = g.μ
  C : g'.C = g.C
  sr : SR g' Pr σ H
  er : ER g' H Pr ρ1 ρA
  va : VA g' v a
  own : OwnV g' H Pr .val v a
  U : ∀ b p, (∀ j, p ≠ .val j) → (∀ t j, p ≠ .tmp t j) → g.U b = some p → g'.U b = some p
theorem Grab.le {g' : Gh} {ρ1 : VEnv} {v : V} {a : AV} (h : Grab g g' H Pr σ ρ1 ρA v a) : g.Le g' := ⟨fun o b e => by unfold Gh.blk; rw [h.μ]; exact e, fun b vs e => by rw [h.C]; exact e⟩

theorem grab_sim (hE : ER g H Pr ρ ρA) (hS : SR g Pr σ H) (tk : Bool) (x : Operand) : ∃ g', Grab g g' H Pr σ (grab tk ρ x).2 ρA (grab tk ρ x).1 (evalE ρA x) := by
  cases x with
  | tmp t =>
    cases tk with
    | false => exact ⟨g, rfl, rfl, hS, hE, (hE t).1.strip, OwnV.strip, fun _ _ _ _ h => h⟩
    | true =>
      let f : Pos → Pos := fun p => match p with | .tmp t' j => if t' = t then .val j else .tmp t' j | p => p
      let g' : Gh := ⟨g.μ, g.C, reU g.U f⟩
      have hl : g.Le g' := ⟨fun _ _ h => h, fun _ _ h => h⟩
      refine ⟨g', rfl, rfl, hS.own rfl rfl (fun b o j h => reU_some h), ?_, (hE t).1.mono hl, ?_, fun b p h1 h2 h => ?_⟩
      · intro t'
        by_cases e : t' = t
        · subst e
          simp only [grab, if_true, updV_apply]
          exact ⟨((hE t').1.mono hl).strip, OwnV.strip⟩
        · simp only [grab, if_true, updV_apply, if_neg e]
          refine ⟨(hE t').1.mono hl, (hE t').2.keep (hE t').1 (fun j b _ hu => ⟨?_, Keep.refl H b⟩)⟩
          rw [show g'.U b = reU g.U f b from rfl, reU_some hu]
          simp [f, e]
      · refine (hE t).2.keep (hE t).1 (fun j b _ hu => ⟨?_, Keep.refl H b⟩)
        rw [show g'.U b = reU g.U f b from rfl, reU_some hu]
        simp [f]
      · rw [show g'.U b = reU g.U f b from rfl, reU_some h]
        cases p with
        | tmp t' j => exact absurd rfl (h2 t' j)
        | _ => rfl
  | const v => exact ⟨g, rfl, rfl, hS, hE, ofConst_VA v, OwnV.const v, fun _ _ _ _ h => h⟩
  | global n => exact ⟨g, rfl, rfl, hS, hE, .undef _, OwnV.noown (by intro els h; simp [grab, evalV, V.cells] at h), fun _ _ _ _ h => h⟩
  | func k => exact ⟨g, rfl, rfl, hS, hE, .func k [] [] [] [] .nil .nil, OwnV.noown (by intro els h; simp [grab, evalV, V.cells] at h), fun _ _ _ _ h => h⟩

/-! ### Cells at a place -/
theorem cutC_some {vs l : List V} {off n : Nat} (h : cutC vs off n = some l) : off + n ≤ vs.length ∧ l = (vs.drop off).take n := by
  unfold cutC at h
  split at h
  · simp only [Option.some.injEq] at h; exact ⟨by assumption, h.symm⟩
  · cases h
theorem rd_cut {as : List AV} {own : Bool} {b off n : Nat} (h : H.get b = some (.cells as own)) (hn : off + n ≤ as.length) : rd H b off n = some ((as.drop off).take n) := by
  unfold rd; rw [h]; simp only; rw [if_pos hn]
/-- A load, of cells that stand for cells. -/
theorem loadA_as {t : TypeId} {vs : List V} {off : Nat} {v : V} (h : asVal P t vs off = some v) (hc : vs.all V.isCell = true) {as : List AV} {own : Bool} {b base : Nat} (hH : H.get b = some (.cells as own)) (hl : base + vs.length ≤ as.length) (hv : VAs g vs ((as.drop base).take vs.length)) :
    ∃ a, loadA P t H b (base + off) = some a ∧ VA g v a ∧ v.isVal = true ∧ v.cells = (vs.drop off).take v.cells.length ∧ off + v.cells.length ≤ vs.length ∧ (∀ j x y, v.cells[j]? = some x → a.cells[j]? = some y → vs[off + j]? = some x ∧ ((as.drop base).take vs.length)[off + j]? = some y) := by
  have cut : ∀ n, off + n ≤ vs.length → rd H b (base + off) n = some ((as.drop (base + off)).take n) ∧ VAs g ((vs.drop off).take n) ((as.drop (base + off)).take n) ∧ (as.drop (base + off)).take n = (((as.drop base).take vs.length).drop off).take n := by
    intro n hn
    have e : (as.drop (base + off)).take n = (((as.drop base).take vs.length).drop off).take n := by
      rw [List.drop_take, List.drop_drop, List.take_take, Nat.min_eq_left (by omega)]
    exact ⟨rd_cut hH (by omega), by rw [e]; exact (hv.drop off).take n, e⟩
  unfold asVal at h
  unfold loadA
  cases hag : tAgg P t with
  | none => rw [hag] at h; cases h
  | some ag =>
    rw [hag] at h
    cases ag with
    | true =>
      simp only at h ⊢
      cases hn : tSize P t with
      | none => rw [hn] at h; cases h
      | some n =>
        rw [hn] at h
        simp only at h ⊢
        cases e : cutC vs off n with
        | none => rw [e] at h; cases h
        | some l =>
          rw [e] at h
          simp only [Option.map_some, Option.some.injEq] at h
          subst h
          obtain ⟨h1, rfl⟩ := cutC_some e
          obtain ⟨c1, c2, c3⟩ := cut n h1
          rw [c1]
          have hlen : ((vs.drop off).take n).length = n := by simp; omega
          refine ⟨_, rfl, .agg _ _ c2, ?_, by simp only [V.cells, hlen], by simp only [V.cells, hlen]; exact h1, fun j x y g1 g2 => ?_⟩
          · simp only [V.isVal]
            rw [List.all_eq_true] at hc ⊢
            intro x hx
            exact hc x (List.mem_of_mem_drop (List.mem_of_mem_take hx))
          · simp only [V.cells, AV.cells] at g1 g2
            rw [c3] at g2
            rw [List.getElem?_take, List.getElem?_drop] at g1 g2
            split at g1
            · rename_i hj
              rw [if_pos hj] at g2
              exact ⟨g1, g2⟩
            · cases g1
    | false =>
      simp only at h ⊢
      split at h
      · rename_i v' e
        simp only [Option.some.injEq] at h
        subst h
        obtain ⟨h1, h2⟩ := cutC_some e
        obtain ⟨c1, c2, c3⟩ := cut 1 h1
        rw [c1]
        rw [← h2] at c2
        generalize hq : (as.drop (base + off)).take 1 = q at c2 c3
        have hv : v'.isCell = true := by
          rw [List.all_eq_true] at hc
          refine hc v' (List.mem_of_mem_drop (i := off) (List.mem_of_mem_take (i := 1) ?_))
          rw [← h2]; exact List.mem_singleton.2 rfl
        have hcs : v'.cells = [v'] := by cases v' <;> first | rfl | simp [V.isCell] at hv
        cases c2 with
        | cons v0 a l c k1 k2 =>
          cases k2
          have hac : a.cells = [a] := by
            have := k1.isCell hv
            cases a <;> first | rfl | simp [AV.isCell] at this
          have hlt : vs[off]? = some v' := by
            have : ((vs.drop off).take 1)[0]? = some v' := by rw [← h2]; rfl
            simpa [List.getElem?_take, List.getElem?_drop] using this
          have hlt2 : ((as.drop base).take vs.length)[off]? = some a := by
            have : ((((as.drop base).take vs.length).drop off).take 1)[0]? = some a := by rw [← c3]; rfl
            simpa only [List.getElem?_take, List.getElem?_drop, Nat.zero_lt_one, if_true, Nat.add_zero] using this
          refine ⟨a, rfl, k1, ?_, by rw [hcs]; exact h2, by rw [hcs]; exact h1, fun j x y g1 g2 => ?_⟩
          · cases v' <;> first | rfl | simp [V.isCell] at hv
          · rw [hcs] at g1
            rw [hac] at g2
            cases j with
            | zero => simp only [List.getElem?_cons_zero, Option.some.injEq] at g1 g2; subst g1; subst g2; exact ⟨hlt, hlt2⟩
            | succ j => simp at g1
      · cases h
end
end Go.Vw
end
section
/- Operations that leave the store as it is. -/
namespace Go.Vw
open Go Go.RowKit Go.Abs

section
variable {P : Program} {g : Gh} {H : AH} {Pr : Nat → Prop} {σ : St} {ρ : VEnv} {ρA : Env}

structure Fr (g : Gh) (Pr : Nat → Prop) (σ : St) (fl : Nat) (H H' : AH) : Prop where
  pr : ∀ b, Pr b → Keep H H' b
  fl : ∀ o b, o < fl → Alive σ g o b → H'.get b = H.get b
  next : H.next ≤ H'.next
  ty : ∀ b t, H.ty.get b = some t → H'.ty.get b = some t
theorem Fr.refl (g : Gh) (Pr : Nat → Prop) (σ : St) (fl : Nat) (H : AH) : Fr g Pr σ fl H H := ⟨fun _ _ => Keep.refl _ _, fun _ _ _ _ => rfl, Nat.le_refl _, fun _ _ h => h⟩
theorem Fr.tag {g : Gh} {Pr : Nat → Prop} {σ : St} {fl : Nat} {H H' : AH} (h : Fr g Pr σ fl H H') (b : Nat) (t : TypeId × Option Nat) : Fr g Pr σ fl H (H'.tag b t) :=
  ⟨fun c hc => (h.pr c hc).trans (Keep.tag H' b t c), fun o c h1 h2 => by rw [AH.tag_get]; exact h.fl o c h1 h2, by rw [AH.tag_next]; exact h.next, fun c u k => AH.tag_mono (h.ty c u k)⟩

def OpSim (P : Program) (call : CallF) (g : Gh) (Pr : Nat → Prop) (σ : St) (fl : Nat) (H : AH) (ρA : Env) (op : Op) (v : V) (ρ1 : VEnv) (σ1 : St) : Prop :=
  ∃ a H' g', evOpE P call (evalE ρA) op H = some (a, H') ∧ g.Le g' ∧ SR g' Pr σ1 H' ∧ ER g' H' Pr ρ1 ρA ∧ VA g' v a ∧ OwnV g' H' Pr .val v a ∧ Fr g Pr σ fl H H'

variable {call : CallF} {fl : Nat}
theorem quietS (hE : ER g H Pr ρ ρA) (hS : SR g Pr σ H) {op : Op} {v : V} {a : AV} (he : evOpE P call (evalE ρA) op H = some (a, H)) (hv : VA g v a) (ho : OwnV g H Pr .val v a) : OpSim P call g Pr σ fl H ρA op v ρ σ :=
  ⟨a, H, g, he, Gh.Le.refl g, hS, hE, hv, ho, Fr.refl _ _ _ _ _⟩
theorem grabS {tk : Bool} {x : Operand} (hE : ER g H Pr ρ ρA) (hS : SR g Pr σ H) {op : Op} (he : evOpE P call (evalE ρA) op H = some (evalE ρA x, H)) : OpSim P call g Pr σ fl H ρA op (grab tk ρ x).1 (grab tk ρ x).2 σ := by
  obtain ⟨g', k⟩ := grab_sim hE hS tk x
  exact ⟨_, H, g', he, k.le, k.sr, k.er, k.va, k.own, Fr.refl _ _ _ _ _⟩

theorem OwnV.val {p : Nat → Pos} (u : Value) : OwnV g H Pr p (ofValV u) (ofVal u) := by
  have h1 : (ofValV u).cells = [ofValV u] := by unfold ofValV; split <;> rfl
  have h2 : (ofVal u).cells = [ofVal u] := by unfold ofVal; split <;> rfl
  unfold OwnV
  rw [h1, h2]
  exact OwnC.one Own1.nils
theorem OwnV.scalar {p : Nat → Pos} {v : V} {a : AV} (h : ∀ els, v ≠ .vec true els) (hc : v.cells = [v]) : OwnV g H Pr p v a := by
  refine OwnV.noown (fun els hm => ?_)
  rw [hc] at hm
  exact h els (List.mem_singleton.1 hm).symm

theorem strOp_VA {op : BinOp} {a b : List UInt8} {x : AV} (h : strOp op a b = some x) : VA g (ofAV x) x ∧ OwnV g H Pr .val (ofAV x) x := by
  have key : (∃ s, x = .str s) ∨ ∃ b, x = .bool b := by
    unfold strOp at h
    split at h <;> first
      | (split at h
         · simp only [Option.some.injEq] at h; exact .inl ⟨_, h.symm⟩
         · cases h)
      | (simp only [Option.some.injEq] at h; exact .inr ⟨_, h.symm⟩)
      | cases h
  rcases key with ⟨s, rfl⟩ | ⟨b, rfl⟩
  · exact ⟨.str s, OwnV.scalar (fun _ e => by cases e) rfl⟩
  · exact ⟨.bool b, OwnV.scalar (fun _ e => by cases e) rfl⟩

theorem eqNil_sim {t : TypeId} {x y : V} {a b : AV} (h1 : VA g x a) (h2 : VA g y b) {r : Bool} (h : eqNilV P t x y = some r) : eqNil P t a b = some r := by
  unfold eqNilV at h
  unfold eqNil
  split at h <;> first
    | (cases h; done)
    | (rename_i hu
       rw [hu]
       cases h1 <;> cases h2 <;> exact h)

theorem bin_sim {op : BinOp} {t : TypeId} {x y : V} {a b : AV} (h1 : VA g x a) (h2 : VA g y b) {v : V} (h : binV P op t x y = some v) : ∃ c, binA P op t a b = some c ∧ VA g v c ∧ OwnV g H Pr .val v c := by
  have gen : ∀ {a b : AV}, VA g x a → VA g y b → eqResV op (eqNilV P t x y) = some v → ∃ c, eqRes op (eqNil P t a b) = some c ∧ VA g v c ∧ OwnV g H Pr .val v c := by
    intro a b h1 h2 h
    cases e : eqNilV P t x y with
    | none => rw [e] at h; cases op <;> simp [eqResV] at h
    | some r =>
      rw [e] at h
      rw [eqNil_sim h1 h2 e]
      cases op <;> simp only [eqResV, Option.some.injEq, reduceCtorEq] at h
      · subst h; exact ⟨_, rfl, .bool _, OwnV.scalar (fun _ e => by cases e) rfl⟩
      · subst h; exact ⟨_, rfl, .bool _, OwnV.scalar (fun _ e => by cases e) rfl⟩
  unfold binV at h
  split at h
  · cases h1; cases h2
    simp only [Option.map_eq_some_iff] at h
    obtain ⟨u, hu, rfl⟩ := h
    refine ⟨ofVal u, ?_, ofVal_VA u, OwnV.val u⟩
    simp only [binA, hu, Option.map_some]
  · cases h1; cases h2
    simp only [Option.map_eq_some_iff] at h
    obtain ⟨u, hu, rfl⟩ := h
    exact ⟨u, hu, strOp_VA hu⟩
  · rename_i k a' l c' k' b' l' d'
    split at h
    · rename_i hc
      cases h1 with
      | agg _ c1 hc1 =>
      cases h2 with
      | agg _ c2 hc2 =>
      cases hc1 with
      | cons _ _ _ _ q1 q2 =>
      cases q2 with
      | cons _ _ _ _ q3 q4 =>
      cases q4; cases q1; cases q3
      cases hc2 with
      | cons _ _ _ _ q1 q2 =>
      cases q2 with
      | cons _ _ _ _ q3 q4 =>
      cases q4; cases q1; cases q3
      simp only [binA, if_pos hc]
      cases op <;> simp only [eqResV, Option.some.injEq, reduceCtorEq] at h
      · subst h; exact ⟨_, rfl, .bool _, OwnV.scalar (fun _ e => by cases e) rfl⟩
      · subst h; exact ⟨_, rfl, .bool _, OwnV.scalar (fun _ e => by cases e) rfl⟩
    · cases h
  · rename_i n1 n2 n3
    obtain ⟨c, k1, k2⟩ := gen h1 h2 h
    refine ⟨c, ?_, k2⟩
    have hz : ∀ (y : V), (∀ (k : IntKind) (n : Int), eqNilV P t (.int k n) y = none) ∧ (∀ s, eqNilV P t (.str s) y = none) ∧ eqNilV P t .undef y = none := by
      intro y
      refine ⟨fun k n => ?_, fun s => ?_, ?_⟩ <;> (unfold eqNilV; split <;> simp_all)
    have hza : ∀ (l : List V) (y : V), eqNilV P t (.agg l) y = none := by
      intro l y
      unfold eqNilV; split <;> simp_all
    have hno : eqNilV P t x y ≠ none := fun e => by rw [e] at h; cases op <;> simp [eqResV] at h
    unfold binA
    split
    · exfalso
      cases h1 with
      | int => exact hno ((hz y).1 _ _)
      | undef => exact hno (hz y).2.2
    · exfalso
      cases h1 with
      | str => exact hno ((hz y).2.1 _)
      | undef => exact hno (hz y).2.2
    · exfalso
      cases h1 with
      | agg l c hc => exact hno (hza _ _)
      | undef => exact hno (hz y).2.2
    · exact k1

theorem un_sim {op : UnOp} {x : V} {a : AV} (h1 : VA g x a) {v : V} (h : unV op x = some v) : ∃ c, unA op a = some c ∧ VA g v c ∧ OwnV g H Pr .val v c := by
  unfold unV at h
  split at h
  · cases h1
    simp only [Option.map_eq_some_iff] at h
    obtain ⟨u, hu, rfl⟩ := h
    exact ⟨ofVal u, by simp only [unA, hu, Option.map_some], ofVal_VA u, OwnV.val u⟩
  · cases h1
    simp only [Option.map_eq_some_iff] at h
    obtain ⟨u, hu, rfl⟩ := h
    exact ⟨ofVal u, by simp only [unA, hu, Option.map_some], ofVal_VA u, OwnV.val u⟩
  · cases h

theorem natOf_sim {x : V} {a : AV} (h : VA g x a) {n : Nat} (hn : natOfV x = some n) : natOf a = some n := by
  unfold natOfV at hn
  split at hn
  · cases h; exact hn
  · cases hn
theorem bound_sim {o : Option V} {oa : Option AV} {d n : Nat} (h : (o = none ∧ oa = none) ∨ ∃ v a, o = some v ∧ oa = some a ∧ VA g v a) (hn : boundV o d = some n) : bound oa d = some n := by
  rcases h with ⟨rfl, rfl⟩ | ⟨v, a, rfl, rfl, h⟩
  · exact hn
  · exact natOf_sim h hn
theorem opt_VA (hE : ER g H Pr ρ ρA) (o : Option Operand) : (o.map (evalV ρ) = none ∧ o.map (evalE ρA) = none) ∨ ∃ v a, o.map (evalV ρ) = some v ∧ o.map (evalE ρA) = some a ∧ VA g v a := by
  cases o with
  | none => exact .inl ⟨rfl, rfl⟩
  | some x => exact .inr ⟨_, _, rfl, rfl, evalV_VA hE x⟩

/-- A cut of a slice that nobody writes. -/
theorem cut_VA {own own' : Bool} {els : List (List V)} {b off len : Nat} {cap cap' : Option Nat} {esz l h : Nat} (hv : VA g (.vec own els) (.slice b off len cap esz)) (hh : h ≤ els.length) (hl : l ≤ h) : VA g (.vec own' ((els.drop l).take (h - l))) (.slice b (off + l * esz) (h - l) cap' esz) := by
  cases hv with
  | vec _ _ _ _ _ _ vs h1 h2 h3 h4 h5 =>
    have hlen : ((els.drop l).take (h - l)).length = h - l := by simp; omega
    have key := VA.vec (g := g) own' ((els.drop l).take (h - l)) b (off + l * esz) cap' esz vs h1 h2 ?_ ?_ ?_
    · rw [hlen] at key; exact key
    · rw [hlen]
      have : (l + (h - l)) * esz ≤ els.length * esz := Nat.mul_le_mul_right _ (by omega)
      rw [Nat.add_mul] at this
      omega
    · intro i el hi
      rw [List.getElem?_take, List.getElem?_drop] at hi
      split at hi
      · exact h4 _ el hi
      · cases hi
    · intro i el hi
      rw [List.getElem?_take, List.getElem?_drop] at hi
      split at hi
      · have := h5 _ el hi
        rwa [show off + (l + i) * esz = off + l * esz + i * esz by rw [Nat.add_mul]; omega] at this
      · cases hi

theorem part_sim {ft : TypeId} {vs : List V} {as : List AV} (hv : VAs g vs as) (o : Nat) {v : V} (h : asVal P ft vs o = some v) :
    ∃ a, (match tAgg P ft, tSize P ft with | some true, some n => if o + n ≤ as.length then some (.agg ((as.drop o).take n)) else none | some false, _ => as[o]? | _, _ => none) = some a ∧ VA g v a := by
  unfold asVal at h
  have hlen := hv.length
  cases hag : tAgg P ft with
  | none => rw [hag] at h; cases h
  | some ag =>
    rw [hag] at h
    cases ag with
    | true =>
      simp only at h ⊢
      cases hn : tSize P ft with
      | none => rw [hn] at h; cases h
      | some n =>
        rw [hn] at h
        simp only at h ⊢
        cases e : cutC vs o n with
        | none => rw [e] at h; cases h
        | some l =>
          rw [e] at h
          simp only [Option.map_some, Option.some.injEq] at h
          subst h
          obtain ⟨h1, rfl⟩ := cutC_some e
          rw [if_pos (by omega)]
          exact ⟨_, rfl, .agg _ _ ((hv.drop o).take n)⟩
    | false =>
      simp only at h ⊢
      split at h
      · rename_i v' e
        simp only [Option.some.injEq] at h
        subst h
        obtain ⟨h1, h2⟩ := cutC_some e
        have hlt : vs[o]? = some v' := by
          have : ((vs.drop o).take 1)[0]? = some v' := by rw [← h2]; rfl
          simpa [List.getElem?_take, List.getElem?_drop] using this
        obtain ⟨a, k1, k2⟩ := hv.get o v' hlt
        exact ⟨a, by cases tSize P ft <;> exact k1, k2⟩
      · cases h
theorem noown_strip1 {v : V} (h : v.strip = v) {p : Nat → Pos} {a : AV} : OwnV g H Pr p v a := by rw [← h]; exact OwnV.strip
end
end Go.Vw
end
section
/- Operations that make or write blocks. -/
namespace Go.Vw
open Go Go.RowKit Go.Abs

section
variable {P : Program} {g : Gh} {H : AH} {Pr : Nat → Prop} {σ : St} {ρ : VEnv} {ρA : Env} {call : CallF} {fl : Nat}

theorem fr_add (h : SR g Pr σ H) (x : AObj) : Fr g Pr σ fl H (H.add x) :=
  ⟨fun b hp => keep_add h x (fun e => by
    subst e
    exact h.pr _ hp (h.Cnone (Nat.le_refl _))), fun o b _ hal => by rw [AH.get_add, if_neg (by have := h.alt hal; omega)], Nat.le_succ _, fun _ _ h => h⟩

/-- A new object with these cells. -/
theorem pushCells (hE : ER g H Pr ρ ρA) (hS : SR g Pr σ H) {cs : List V} {as : List AV} (hv : VAs g cs as) (hc : cs.all V.isCell = true) (ho : OwnC g H Pr .val cs as) :
    ∃ g', g.Le g' ∧ SR g' Pr (σ.push (.cells cs)) (H.add (.cells as true)) ∧ ER g' (H.add (.cells as true)) Pr ρ ρA ∧ g'.blk σ.size = some H.next ∧ Fr g Pr σ fl H (H.add (.cells as true)) := by
  let f : Pos → Pos := fun p => match p with | .val j => .cell σ.size j | p => p
  have hU : ∀ b p, g.C b ≠ none → p.still → g.U b = some p → reU g.U f b = some p := by
    intro b p _ hs hu
    rw [reU_some hu]
    cases p <;> first | rfl | exact hs.elim
  have hl : g.Le ⟨H.next :: g.μ, g.C, reU g.U f⟩ := ⟨fun o b e => by
    show blkO (_ :: _) o = _
    have : o < g.μ.length := blkO_lt e
    rw [blkO, if_neg (by omega)]
    exact e, fun b vs e => e⟩
  have hn : ∀ b, g.C b ≠ none → b ≠ H.next := fun b hc e => by subst e; exact hc (hS.Cnone (Nat.le_refl _))
  obtain ⟨k1, k2, k3, k4⟩ := hS.addObj (x := .cells cs) (ax := .cells as true) (reU g.U f) hU ⟨as, by rw [AH.get_add, if_pos rfl], hv.mono hl, hc, ho.keep hv (fun j b hb hu => ⟨reU_some hu, keep_add hS _ (hn b hb)⟩)⟩
  exact ⟨_, k2, k1, hE.keep k2 k3, k4, fr_add hS _⟩

theorem mk_some {c : List AV} (h : c.all AV.isCell = true) : mk H c = some (H.next, H.add (.cells c true)) := by unfold mk; rw [if_pos h]

theorem OwnV.ptr {p : Nat → Pos} {o off : Nat} {a : AV} : OwnV g H Pr p (.ptr o off) a := OwnV.scalar (fun _ e => by cases e) rfl

theorem alloc_sim (hE : ER g H Pr ρ ρA) (hS : SR g Pr σ H) {t : TypeId} {cs : List V} (hB : isBld P t ≠ true) (hz : tZeroV P t = some cs) (hc : cs.all V.isCell = true) : OpSim P call g Pr σ fl H ρA (.alloc t) (.ptr σ.size 0) ρ (σ.push (.cells cs)) := by
  unfold tZeroV at hz
  simp only [Option.map_eq_some_iff] at hz
  obtain ⟨u, hu, rfl⟩ := hz
  have hv := ofVals_VA (g := g) u.cells.toList
  obtain ⟨g', k1, k2, k3, k4, k5⟩ := pushCells (fl := fl) hE hS hv hc (OwnC.vals _)
  refine ⟨.ptr H.next 0, _, g', ?_, k1, k2, k3, .ptr _ _ _ k4, OwnV.ptr, k5⟩
  have : tZero P t = some (u.cells.toList.map ofVal) := by unfold tZero; rw [hu]; rfl
  simp only [evOpE, this, mk_some (hv.allCell hc), Option.map_some]
  rw [if_neg hB]
/-- A new builder. -/
theorem bld_sim (hE : ER g H Pr ρ ρA) (hS : SR g Pr σ H) {t : TypeId} (u : TypeId) (hB : isBld P t = true) (hz : tZeroV P t = some [.nilp, .vec true []]) : OpSim P call g Pr σ fl H ρA (.alloc t) (.ptr σ.size 0) ρ (σ.push (.bld t u [])) := by
  unfold tZeroV at hz
  simp only [Option.map_eq_some_iff] at hz
  obtain ⟨z, hu, hzl⟩ := hz
  have hv := ofVals_VA (g := g) z.cells.toList
  have ho : OwnC g H Pr .val (z.cells.toList.map ofValV) (z.cells.toList.map ofVal) := OwnC.vals _
  have hc : (z.cells.toList.map ofValV).all V.isCell = true := by rw [hzl]; rfl
  have hal : (z.cells.toList.map ofVal).all AV.isCell = true := hv.allCell hc
  have hsl : ∀ v : Value, ∀ b off len cap esz, ofVal v ≠ .slice b off len cap esz := by
    intro v b off len cap esz e
    unfold ofVal at e
    split at e <;> cases e
  obtain ⟨g', k1, k2, k3, k4, k5⟩ := pushCells (fl := fl) hE hS hv hc ho
  have hget : (σ.push (.cells (z.cells.toList.map ofValV))).get σ.size = some (.cells (z.cells.toList.map ofValV)) := by
    exact if_pos rfl
  obtain ⟨as, e1, e2, e3, e4⟩ := k2.obj _ _ _ hget k4
  have hlt : H.next < (H.add (.cells (z.cells.toList.map ofVal) true)).next := Nat.lt_succ_self _
  have k2t := k2.tag hlt (t, some 2)
  have hnt : ((H.add (.cells (z.cells.toList.map ofVal) true)).tag H.next (t, some 2)).ty.get H.next = some (t, some 2) := by
    have h0 : ((H.add (.cells (z.cells.toList.map ofVal) true)).ty.get H.next).isNone = true := by
      show (H.ty.get H.next).isNone = true
      rw [hS.tlow _ (Nat.le_refl _)]; rfl
    rw [AH.tag_ty, if_pos ⟨h0, rfl⟩]
  have e1' : as = z.cells.toList.map ofVal := by
    rw [AH.get_add, if_pos rfl] at e1
    simp only [Option.some.injEq, AObj.cells.injEq] at e1
    exact e1.1.symm
  have hobj : ObjR g' ((H.add (.cells (z.cells.toList.map ofVal) true)).tag H.next (t, some 2)) Pr σ.size H.next (.bld t u []) := by
    refine ⟨.nilp, .inl rfl, ⟨as, by rw [AH.tag_get]; exact e1, by rw [hzl] at e2; exact e2, rfl, ?_⟩, hnt, ?_⟩
    · rw [hzl] at e4
      exact e4.keep (by rw [hzl] at e2; exact e2) (fun _ c _ hu => ⟨hu, Keep.tag _ _ _ _⟩)
    · intro x hx a b' off len cap esz e
      rw [AH.tag_get, e1, e1'] at hx
      subst e
      simp only [Option.some.injEq, AObj.cells.injEq, and_true] at hx
      cases hq : z.cells.toList with
      | nil => rw [hq] at hx; cases hx
      | cons v1 r =>
        cases r with
        | nil => rw [hq] at hx; cases hx
        | cons v2 r =>
          rw [hq] at hx
          simp only [List.map_cons, List.cons.injEq] at hx
          exact absurd hx.2.1 (hsl _ _ _ _ _ _)
  have k6 := k2t.swap hget (fun e => by cases e) k4 hobj trivial
  have hpush : (σ.push (.cells (z.cells.toList.map ofValV))).put σ.size (.bld t u []) = σ.push (.bld t u []) := by
    unfold St.push St.put St.size
    rw [putO, if_pos rfl]
  rw [hpush] at k6
  refine ⟨.ptr H.next 0, _, g', ?_, k1, k6, k3.tag _ _, .ptr _ _ _ k4, OwnV.ptr, k5.tag _ _⟩
  have : tZero P t = some (z.cells.toList.map ofVal) := by unfold tZero; rw [hu]; rfl
  simp only [evOpE, this, mk_some hal, Option.map_some]
  have hlen : (z.cells.toList.map ofVal).length = 2 := by rw [List.length_map, ← List.length_map (f := ofValV), hzl]; rfl
  rw [if_pos hB, hlen]

theorem box_sim {tk : Bool} {t : TypeId} {x : Operand} (hE : ER g H Pr ρ ρA) (hS : SR g Pr σ H) (hi : (grab tk ρ x).1.isVal = true) : OpSim P call g Pr σ fl H ρA (.box t x) (.ptr σ.size 0) (grab tk ρ x).2 (σ.push (.cells (grab tk ρ x).1.cells)) := by
  obtain ⟨g1, k⟩ := grab_sim hE hS tk x
  have hv := k.va.cells hi
  have hc := V.isVal_cells hi
  obtain ⟨g', k1, k2, k3, k4, k5⟩ := pushCells (fl := fl) k.er k.sr hv hc k.own
  refine ⟨.ptr H.next 0, _, g', ?_, k.le.trans k1, k2, k3, .ptr _ _ _ k4, OwnV.ptr, ⟨k5.pr, fun o b h1 h2 => k5.fl o b h1 ⟨k.le.blk _ _ h2.1, h2.2⟩, k5.next, k5.ty⟩⟩
  simp only [evOpE, k.va.isVal hi, if_true, mk_some (hv.allCell hc), Option.map_some]

/-! ### A store -/
theorem V.cells_len {v : V} {a : AV} (h : VA g v a) (hv : v.isVal = true) : a.cells.length = v.cells.length := (h.cells hv).length
theorem store_sim {tk : Bool} {t : TypeId} {a x : Operand} {o off : Nat} {vs : List V} (hE : ER g H Pr ρ ρA) (hS : SR g Pr σ H) (ha : evalV ρ a = .ptr o off) (hs : σ.get o = some (.cells vs)) (hi : (grab tk ρ x).1.isVal = true)
    (ht : tSize P t = some (grab tk ρ x).1.cells.length) (hle : off + (grab tk ρ x).1.cells.length ≤ vs.length) (hfl : fl ≤ o) :
    OpSim P call g Pr σ fl H ρA (.store t a x) .undef (grab tk ρ x).2 ⟨putO σ.objs o (.cells (splice vs off (grab tk ρ x).1.cells)), (grab tk ρ x).1.pins o σ.size σ.pin⟩ := by
  have hav := evalV_VA hE a
  rw [ha] at hav
  generalize hq : evalE ρA a = aa at hav
  cases hav with
  | ptr _ _ b hb =>
  obtain ⟨g1, k⟩ := grab_sim hE hS tk x
  have hb1 := k.le.blk _ _ hb
  obtain ⟨as, e1, e2, e3, e4⟩ := k.sr.obj o _ b hs hb1
  have hv := k.va.cells hi
  have hc := V.isVal_cells hi
  let f : Pos → Pos := fun p => match p with | .val j => .cell o (off + j) | p => p
  have hfs : ∀ p : Pos, p.still → f p = p := fun p hp => by cases p <;> first | rfl | exact hp.elim
  have halo : Alive σ g1 o b := ⟨hb1, _, hs, fun e => by cases e⟩
  obtain ⟨c1, c2⟩ := k.sr.sep o b halo
  have hkc : ∀ c, g1.C c ≠ none → Keep H (H.wput b (.cells (splice as off (evalE ρA x).cells) true)) c := by
    intro c hc
    have hkin := k.sr.kin o b c halo hc
    have hcb' : c ≠ b := fun e => by subst e; exact hc c1
    refine ⟨fun y hy => ?_, AH.oldAt_wput _ _ _ _, AH.kinAt_wput _ _ _ _, fun hd => ?_⟩
    · rw [AH.get_wput H e1 c2, if_neg hcb', if_neg (fun k => hkin k.2)]; exact hy
    · show ((H.put b _).kill b).dead.get _ = none
      rw [AH.dead_kill, AH.kinAt_put _ _ _ _ (fun _ => rfl), if_neg hkin]
      exact hd
  have hlen := e2.length
  have hvl := hv.length
  obtain ⟨w1, w2, w3, w4⟩ := k.sr.write (g' := ⟨g1.μ, g1.C, reU g1.U f⟩) (vs' := splice vs off (grab tk ρ x).1.cells) (as' := splice as off (evalE ρA x).cells) hs hb1 e1 rfl rfl (fun c p _ hp _ hu => by rw [show Gh.U ⟨g1.μ, g1.C, reU g1.U f⟩ c = reU g1.U f c from rfl, reU_some hu, hfs p hp])
    (e2.splice hv off) (by
      unfold splice
      rw [List.all_append, List.all_append, hc]
      rw [List.all_eq_true] at e3
      have : (vs.take off).all V.isCell = true := List.all_eq_true.2 fun y hy => e3 y (List.mem_of_mem_take hy)
      rw [this]
      have : (vs.drop (off + (grab tk ρ x).1.cells.length)).all V.isCell = true := List.all_eq_true.2 fun y hy => e3 y (List.mem_of_mem_drop hy)
      rw [this]
      rfl) (by
      intro i y z h1 h2
      rw [getElem?_splice _ _ _ _ hle] at h1
      rw [getElem?_splice _ _ _ _ (by omega)] at h2
      rw [hvl] at h2
      by_cases hin : off ≤ i ∧ i < off + (grab tk ρ x).1.cells.length
      · rw [if_pos hin] at h1 h2
        have hyz : VA g1 y z := by
          obtain ⟨z', q1, q2⟩ := hv.get _ y h1
          rw [h2] at q1; simp only [Option.some.injEq] at q1; subst q1; exact q2
        exact (k.own (i - off) y z h1 h2).keep hyz (fun c hc hu => ⟨by
          show reU g1.U f c = _
          rw [reU_some hu]
          simp only [f]
          rw [show off + (i - off) = i by omega], hkc c hc⟩)
      · rw [if_neg hin] at h1 h2
        have hyz : VA g1 y z := by
          obtain ⟨z', q1, q2⟩ := e2.get _ y h1
          rw [h2] at q1; simp only [Option.some.injEq] at q1; subst q1; exact q2
        exact (e4 i y z h1 h2).keep hyz (fun c hc hu => ⟨by
          show reU g1.U f c = _
          rw [reU_some hu], hkc c hc⟩)) ((grab tk ρ x).1.pins o σ.size σ.pin) (by unfold V.pins; split <;> omega) (by
      have hp := k.sr.pin o _ hs
      have hle' : σ.pin ≤ (grab tk ρ x).1.pins o σ.size σ.pin := by unfold V.pins; split <;> omega
      have hp := VObj.low_mono (show max (o + 1) σ.pin ≤ max (o + 1) ((grab tk ρ x).1.pins o σ.size σ.pin) by omega) hp
      have hvlow : V.lows (max (o + 1) ((grab tk ρ x).1.pins o σ.size σ.pin)) (grab tk ρ x).1.cells = true := by
        have h1 : (grab tk ρ x).1.low (max (o + 1) ((grab tk ρ x).1.pins o σ.size σ.pin)) = true := by
          unfold V.pins
          split
          · rename_i hl; exact V.low_mono (by omega) _ hl
          · have := k.va.isLow
            rw [k.sr.len] at this
            exact V.low_mono (by omega) _ this
        generalize (grab tk ρ x).1 = w at h1
        cases w <;> first | (simp only [V.cells, V.lows, Bool.and_eq_true]; exact ⟨h1, trivial⟩) | exact h1
      have hp' : V.lows (max (o + 1) ((grab tk ρ x).1.pins o σ.size σ.pin)) vs = true := hp
      rw [lows_iff] at hp' hvlow ⊢
      intro y hy
      unfold splice at hy
      rcases List.mem_append.1 hy with hy | hy
      · rcases List.mem_append.1 hy with hy | hy
        · exact hp' y (List.mem_of_mem_take hy)
        · exact hvlow y hy
      · exact hp' y (List.mem_of_mem_drop hy))
  refine ⟨.undef, _, _, ?_, k.le.trans w2, w1, k.er.keep w2 (fun c p hc hp hu => ⟨by
    show reU g1.U f c = _
    rw [reU_some hu, hfs p hp], hkc c hc⟩), .undef _, OwnV.scalar (fun _ e => by cases e) rfl, ⟨fun c hp => hkc c (k.sr.pr c hp), fun o' b' h1 h2 => w4 o' b' ⟨k.le.blk _ _ h2.1, h2.2⟩ (by omega), Nat.le_refl _, fun _ _ h => h⟩⟩
  have hav : (evalE ρA x).isVal = true := k.va.isVal hi
  have : storeA P t H b off (evalE ρA x) = some (H.wput b (.cells (splice as off (evalE ρA x).cells) true)) := by
    unfold storeA wr
    rw [if_pos ⟨hav, by rw [ht, hvl]⟩, e1]
    simp only
    rw [if_pos ⟨by omega, hv.allCell hc⟩]
  simp only [evOpE, hq, this, Option.map_some]

/-! ### A load -/
theorem load_sim {t : TypeId} {a : Operand} {o off : Nat} {vs : List V} {v : V} (hE : ER g H Pr ρ ρA) (hS : SR g Pr σ H) (ha : evalV ρ a = .ptr o off) (hs : σ.get o = some (.cells vs)) (hv : asVal P t vs off = some v) : OpSim P call g Pr σ fl H ρA (.load t a) v.strip ρ σ := by
  have hav := evalV_VA hE a
  rw [ha] at hav
  generalize hq : evalE ρA a = aa at hav
  cases hav with
  | ptr _ _ b hb =>
  obtain ⟨as, e1, e2, e3, e4⟩ := hS.obj o _ b hs hb
  have hlen := e2.length
  obtain ⟨x, k1, k2, _⟩ := loadA_as (g := g) hv e3 e1 (base := 0) (by omega) (by rw [List.drop_zero, ← hlen, List.take_length]; exact e2)
  rw [Nat.zero_add] at k1
  refine quietS hE hS ?_ k2.strip OwnV.strip
  simp only [evOpE, hq, k1, Option.map_some]
theorem loadRo_sim {t : TypeId} {a : Operand} {off : Nat} {vs : List V} {v : V} (hE : ER g H Pr ρ ρA) (hS : SR g Pr σ H) (ha : evalV ρ a = .ro vs off) (hv : asVal P t vs off = some v) : OpSim P call g Pr σ fl H ρA (.load t a) v.strip ρ σ := by
  have hav := evalV_VA hE a
  rw [ha] at hav
  generalize hq : evalE ρA a = aa at hav
  cases hav with
  | ro _ _ b base ws h1 h2 h3 h4 =>
  obtain ⟨own, e1⟩ := hS.fro b ws h1
  obtain ⟨x, k1, k2, _⟩ := loadA_as (g := g) hv h3 e1 h2 h4
  refine quietS hE hS ?_ k2.strip OwnV.strip
  simp only [evOpE, hq, k1, Option.map_some]
theorem loadTk_sim {t : TypeId} {a : Operand} {o off : Nat} {vs : List V} {v : V} (hE : ER g H Pr ρ ρA) (hS : SR g Pr σ H) (ha : evalV ρ a = .ptr o off) (hs : σ.get o = some (.cells vs)) (hv : asVal P t vs off = some v) :
    OpSim P call g Pr σ fl H ρA (.load t a) v ρ (σ.put o (.cells (stripAt vs off v.cells.length))) := by
  have hav := evalV_VA hE a
  rw [ha] at hav
  generalize hq : evalE ρA a = aa at hav
  cases hav with
  | ptr _ _ b hb =>
  obtain ⟨as, e1, e2, e3, e4⟩ := hS.obj o _ b hs hb
  have hlen := e2.length
  obtain ⟨x, k1, k2, k3, k4, k5, k6⟩ := loadA_as (g := g) hv e3 e1 (base := 0) (by omega) (by rw [List.drop_zero, ← hlen, List.take_length]; exact e2)
  rw [Nat.zero_add] at k1
  have k6' : ∀ j y z, v.cells[j]? = some y → x.cells[j]? = some z → vs[off + j]? = some y ∧ as[off + j]? = some z := by
    intro j y z h1 h2
    have := k6 j y z h1 h2
    rw [List.drop_zero, ← hlen, List.take_length] at this
    exact this
  let f : Pos → Pos := fun p => match p with | .cell o' j => if o' = o ∧ off ≤ j ∧ j < off + v.cells.length then .val (j - off) else .cell o' j | p => p
  have hcut : (((vs.drop off).take v.cells.length).map V.strip1).length = v.cells.length := by simp; omega
  obtain ⟨w1, w2⟩ := hS.reobj (g' := ⟨g.μ, g.C, reU g.U f⟩) (vs' := stripAt vs off v.cells.length) hs hb e1 rfl rfl (fun c o' j hne hu => by
      show reU g.U f c = _
      rw [reU_some hu]
      simp only [f]
      rw [if_neg (fun k => hne k.1)]) (by
      unfold stripAt
      have h1 := ((e2.drop off).take v.cells.length).strip1
      have h2 := e2.splice h1 off
      have : splice as off ((as.drop off).take v.cells.length) = as := by
        apply List.ext_getElem?
        intro i
        have hl2 : ((as.drop off).take v.cells.length).length = v.cells.length := by simp; omega
        rw [getElem?_splice _ _ _ _ (by omega), hl2]
        split
        · rename_i hin
          rw [List.getElem?_take, List.getElem?_drop, if_pos (by omega), show off + (i - off) = i by omega]
        · rfl
      rw [this] at h2
      exact h2) (by
      unfold stripAt splice
      rw [List.all_append, List.all_append]
      rw [List.all_eq_true] at e3
      have q1 : (vs.take off).all V.isCell = true := List.all_eq_true.2 fun y hy => e3 y (List.mem_of_mem_take hy)
      have q2 : (((vs.drop off).take v.cells.length).map V.strip1).all V.isCell = true := by
        rw [List.all_eq_true]
        intro y hy
        obtain ⟨z, hz, rfl⟩ := List.mem_map.1 hy
        have := e3 z (List.mem_of_mem_drop (List.mem_of_mem_take hz))
        cases z <;> exact this
      rw [q1, q2, Bool.true_and, Bool.true_and]
      exact List.all_eq_true.2 fun y hy => e3 y (List.mem_of_mem_drop hy)) (by
      intro i y z h1 h2
      unfold stripAt at h1
      rw [getElem?_splice _ _ _ _ (by rw [hcut]; omega), hcut] at h1
      by_cases hin : off ≤ i ∧ i < off + v.cells.length
      · rw [if_pos hin, List.getElem?_map] at h1
        cases e : ((vs.drop off).take v.cells.length)[i - off]? with
        | none => rw [e] at h1; cases h1
        | some y' =>
          rw [e] at h1
          simp only [Option.map_some, Option.some.injEq] at h1
          subst h1
          exact Own1.strip
      · rw [if_neg hin] at h1
        have hyz : VA g y z := by
          obtain ⟨z', q1, q2⟩ := e2.get _ y h1
          rw [h2] at q1; simp only [Option.some.injEq] at q1; subst q1; exact q2
        refine (e4 i y z h1 h2).keep hyz (fun c _ hu => ⟨?_, Keep.refl H c⟩)
        show reU g.U f c = _
        rw [reU_some hu]
        simp only [f]
        rw [if_neg (fun k => hin k.2)]) (by
      have hp : V.lows (max (o + 1) σ.pin) vs = true := hS.pin o _ hs
      rw [lows_iff] at hp ⊢
      intro y hy
      unfold stripAt splice at hy
      rcases List.mem_append.1 hy with hy | hy
      · rcases List.mem_append.1 hy with hy | hy
        · exact hp y (List.mem_of_mem_take hy)
        · obtain ⟨z, hz, rfl⟩ := List.mem_map.1 hy
          exact low_strip1 (hp z (List.mem_of_mem_drop (List.mem_of_mem_take hz)))
      · exact hp y (List.mem_of_mem_drop hy))
  refine ⟨x, H, _, ?_, w2, w1, ?_, k2.mono w2, ?_, Fr.refl _ _ _ _ _⟩
  · simp only [evOpE, hq, k1, Option.map_some]
  · intro t'
    refine ⟨(hE t').1.mono w2, (hE t').2.keep (hE t').1 (fun j c _ hu => ⟨?_, Keep.refl H c⟩)⟩
    show reU g.U f c = _
    rw [reU_some hu]
  · intro j y z h1 h2
    obtain ⟨q1, q2⟩ := k6' j y z h1 h2
    have hjl : j < v.cells.length := (List.getElem?_eq_some_iff.1 h1).1
    have hyz : VA g y z := by
      obtain ⟨z', p1, p2⟩ := e2.get _ y q1
      rw [q2] at p1; simp only [Option.some.injEq] at p1; subst p1; exact p2
    have ho := e4 (off + j) y z q1 q2
    have := OwnC.keep (g' := ⟨g.μ, g.C, reU g.U f⟩) (H' := H) (p := fun _ => .cell o (off + j)) (p' := fun _ => .val j) (l := [y]) (c := [z]) (.cons _ _ _ _ hyz .nil) (OwnC.one ho) (fun _ c _ hu => ⟨by
      show reU g.U f c = _
      rw [reU_some hu]
      simp only [f]
      rw [if_pos ⟨trivial, by omega, by omega⟩, show off + j - off = j by omega], Keep.refl H c⟩)
    exact this 0 y z rfl rfl
end
end Go.Vw
end
section
/- Slices: what is appended, and to what. -/
namespace Go.Vw
open Go Go.RowKit Go.Abs

section
variable {P : Program} {g : Gh} {H : AH} {Pr : Nat → Prop} {σ : St} {ρ : VEnv} {ρA : Env} {call : CallF} {fl : Nat}

theorem VAs.split {l r : List V} {c : List AV} (h : VAs g (l ++ r) c) : VAs g l (c.take l.length) ∧ VAs g r (c.drop l.length) := by
  constructor
  · have := h.take l.length
    rwa [List.take_left] at this
  · have := h.drop l.length
    rwa [List.drop_left] at this
theorem VAs.flat {esz : Nat} : ∀ (els : List (List V)) (cells : List AV), (∀ (i : Nat) (el : List V), els[i]? = some el → el.length = esz) → cells.length = els.length * esz → (∀ (i : Nat) (el : List V), els[i]? = some el → VAs g el ((cells.drop (i * esz)).take esz)) → VAs g els.flatten cells
  | [], cells, _, hl, _ => by
    have : cells = [] := List.eq_nil_of_length_eq_zero (by simpa using hl)
    subst this; exact .nil
  | el :: r, cells, h1, hl, h2 => by
    have e0 := h2 0 el rfl
    rw [Nat.zero_mul, List.drop_zero] at e0
    have ih := VAs.flat r (cells.drop esz) (fun i x hx => h1 (i + 1) x (by simpa using hx)) (by
      rw [List.length_drop, hl, List.length_cons, Nat.add_mul]; omega) (fun i x hx => by
      have := h2 (i + 1) x (by simpa using hx)
      rw [List.drop_drop]
      rwa [show (i + 1) * esz = esz + i * esz by rw [Nat.add_mul]; omega] at this)
    rw [List.flatten_cons, ← List.take_append_drop esz cells]
    exact e0.append ih
theorem VAs.unflat {esz : Nat} : ∀ {els : List (List V)} {cells : List AV}, VAs g els.flatten cells → (∀ (i : Nat) (el : List V), els[i]? = some el → el.length = esz) → ∀ (i : Nat) (el : List V), els[i]? = some el → VAs g el ((cells.drop (i * esz)).take esz)
  | [], _, _, _, i, el, hi => by simp at hi
  | x :: r, cells, h, h1, i, el, hi => by
    rw [List.flatten_cons] at h
    obtain ⟨k1, k2⟩ := h.split
    have hx := h1 0 x rfl
    rw [hx] at k1 k2
    cases i with
    | zero => simp only [List.getElem?_cons_zero, Option.some.injEq] at hi; subst hi; rw [Nat.zero_mul, List.drop_zero]; exact k1
    | succ i =>
      have := VAs.unflat k2 (fun i x hx => h1 (i + 1) x (by simpa using hx)) i el (by simpa using hi)
      rw [List.drop_drop] at this
      rwa [show (i + 1) * esz = esz + i * esz by rw [Nat.add_mul]; omega]
theorem flatten_length {esz : Nat} : ∀ (els : List (List V)), (∀ (i : Nat) (el : List V), els[i]? = some el → el.length = esz) → els.flatten.length = els.length * esz
  | [], _ => by simp
  | x :: r, h => by
    rw [List.flatten_cons, List.length_append, h 0 x rfl, flatten_length r (fun i y hy => h (i + 1) y (by simpa using hy)), List.length_cons, Nat.add_mul]; omega
/-- A slice that nobody writes, out of cells that lie one behind the other. -/
theorem VA.ofFlat {own : Bool} {els : List (List V)} {b off : Nat} {cap : Option Nat} {esz : Nat} {vs : List AV} (h1 : g.C b = some vs) (h2 : 0 < esz) (h3 : off + els.length * esz ≤ vs.length) (h4 : ∀ (i : Nat) (el : List V), els[i]? = some el → el.length = esz ∧ el.all V.isCell = true)
    (h5 : VAs g els.flatten ((vs.drop off).take (els.length * esz))) : VA g (.vec own els) (.slice b off els.length cap esz) := by
  refine .vec own els b off cap esz vs h1 h2 h3 h4 (fun i el hi => ?_)
  have := h5.unflat (fun i x hx => (h4 i x hx).1) i el hi
  have hlt : i < els.length := (List.getElem?_eq_some_iff.1 hi).1
  have hm : (i + 1) * esz ≤ els.length * esz := Nat.mul_le_mul_right _ hlt
  rw [Nat.add_mul, Nat.one_mul] at hm
  rwa [List.drop_take, List.take_take, Nat.min_eq_left (by omega), List.drop_drop] at this
theorem VA.toFlat {own : Bool} {els : List (List V)} {b off len : Nat} {cap : Option Nat} {esz : Nat} (h : VA g (.vec own els) (.slice b off len cap esz)) : len = els.length ∧ 0 < esz ∧ (∀ (i : Nat) (el : List V), els[i]? = some el → el.length = esz ∧ el.all V.isCell = true) ∧ ∃ vs, g.C b = some vs ∧ off + els.length * esz ≤ vs.length ∧ VAs g els.flatten ((vs.drop off).take (els.length * esz)) := by
  cases h with
  | vec _ _ _ _ _ _ vs h1 h2 h3 h4 h5 =>
    refine ⟨rfl, h2, h4, vs, h1, h3, VAs.flat els _ (fun i x hx => (h4 i x hx).1) (by simp; omega) (fun i el hi => ?_)⟩
    have hlt : i < els.length := (List.getElem?_eq_some_iff.1 hi).1
    have hm : (i + 1) * esz ≤ els.length * esz := Nat.mul_le_mul_right _ hlt
    rw [Nat.add_mul, Nat.one_mul] at hm
    rw [List.drop_take, List.take_take, Nat.min_eq_left (by omega), List.drop_drop]
    exact h5 i el hi

theorem chunk_flatten (s : Nat) : ∀ (n : Nat) (l : List V), l.length = n * s → (chunk s n l).flatten = l
  | 0, l, h => by
    have : l = [] := List.eq_nil_of_length_eq_zero (by simpa using h)
    subst this; rfl
  | n + 1, l, h => by
    rw [chunk, List.flatten_cons, chunk_flatten s n _ (by rw [List.length_drop, h, Nat.add_mul]; omega), List.take_append_drop]
theorem chunk_length (s : Nat) : ∀ (n : Nat) (l : List V), (chunk s n l).length = n
  | 0, _ => rfl
  | n + 1, l => by rw [chunk, List.length_cons, chunk_length s n]
theorem chunk_get (s : Nat) : ∀ (n : Nat) (l : List V), l.length = n * s → ∀ (i : Nat) (el : List V), (chunk s n l)[i]? = some el → el.length = s ∧ ∀ x ∈ el, x ∈ l
  | 0, l, _, i, el, hi => by simp [chunk] at hi
  | n + 1, l, h, i, el, hi => by
    rw [chunk] at hi
    have hl : l.length = n * s + s := by rw [h, Nat.add_mul]; omega
    cases i with
    | zero =>
      simp only [List.getElem?_cons_zero, Option.some.injEq] at hi
      subst hi
      exact ⟨by simp; omega, fun x hx => List.mem_of_mem_take hx⟩
    | succ i =>
      obtain ⟨k1, k2⟩ := chunk_get s n (l.drop s) (by rw [List.length_drop]; omega) i el (by simpa using hi)
      exact ⟨k1, fun x hx => List.mem_of_mem_drop (k2 x hx)⟩
theorem isCell_strip1 {v : V} (h : v.isCell = true) : v.strip1.isCell = true := by cases v <;> exact h

/-- What is appended. -/
theorem src_sim (hS : SR g Pr σ H) {size : Nat} {x : V} {xa : AV} (hv : VA g x xa) {new : List (List V)} (h : srcV σ size x = some new) :
    ∃ cells esz, srcOf H xa = some (new.length, cells, esz) ∧ (new.length = 0 ∨ esz = size) ∧ VAs g new.flatten cells ∧ ∀ (i : Nat) (el : List V), new[i]? = some el → el.length = size ∧ el.all V.isCell = true := by
  unfold srcV at h
  split at h
  · rename_i own els
    split at h
    · rename_i hall
      simp only [Option.some.injEq] at h
      subst h
      have hsz : ∀ (i : Nat) (el : List V), els[i]? = some el → el.length = size := fun i el hi => by
        have := List.all_eq_true.1 hall el (List.mem_of_getElem? hi)
        simpa using this
      cases hv with
      | nils _ => exact ⟨[], 0, rfl, .inl rfl, .nil, fun i el hi => by simp at hi⟩
      | vec _ _ b off cap esz vs h1 h2 h3 h4 h5 =>
        obtain ⟨_, _, _, vs', k1, k2, k3⟩ := VA.toFlat (VA.vec own els b off cap esz vs h1 h2 h3 h4 h5)
        rw [h1] at k1
        simp only [Option.some.injEq] at k1
        subst k1
        obtain ⟨ow, e1⟩ := hS.fro b vs h1
        refine ⟨(vs.drop off).take (els.length * esz), esz, ?_, ?_, k3, fun i el hi => ⟨hsz i el hi, (h4 i el hi).2⟩⟩
        · simp only [srcOf, rd_cut e1 h3, Option.map_some]
        · cases els with
          | nil => exact .inl rfl
          | cons el r =>
            right
            rw [← (h4 0 el rfl).1, hsz 0 el rfl]
    · cases h
  · rename_i s
    split at h
    · rename_i hs1
      simp only [Option.some.injEq] at h
      subst h; subst hs1
      cases hv
      refine ⟨s.map fun c => .int .u8 c.toNat, 1, by simp [srcOf], .inr rfl, ?_, fun i el hi => ?_⟩
      · have : (s.map fun c => [byteCellV c]).flatten = s.map byteCellV := by induction s with
          | nil => rfl
          | cons c r ih => simp [ih]
        rw [this]
        clear this
        induction s with
        | nil => exact .nil
        | cons c r ih => exact .cons _ _ _ _ (.int _ _) ih
      · rw [List.getElem?_map] at hi
        cases e : s[i]? with
        | none => rw [e] at hi; cases hi
        | some c => rw [e] at hi; simp only [Option.map_some, Option.some.injEq] at hi; subst hi; exact ⟨rfl, rfl⟩
    · cases h
  · rename_i o off len cap esz
    split at h
    · rename_i he
      subst he
      split at h
      · rename_i vs hs
        simp only [Option.map_eq_some_iff] at h
        obtain ⟨c, hc, rfl⟩ := h
        obtain ⟨k1, rfl⟩ := cutC_some hc
        cases hv with
        | sl _ _ _ b _ _ hb =>
          obtain ⟨as, e1, e2, e3, e4⟩ := hS.obj o _ b hs hb
          have hl := e2.length
          have hlen : (((vs.drop off).take (len * esz)).map V.strip1).length = len * esz := by simp; omega
          refine ⟨(as.drop off).take (len * esz), esz, ?_, .inr rfl, ?_, fun i el hi => ?_⟩
          · rw [chunk_length]
            simp only [srcOf, rd_cut e1 (by omega : off + len * esz ≤ as.length), Option.map_some]
          · rw [chunk_flatten _ _ _ hlen]
            exact ((e2.drop off).take _).strip1
          · obtain ⟨q1, q2⟩ := chunk_get _ _ _ hlen i el hi
            refine ⟨q1, List.all_eq_true.2 fun y hy => ?_⟩
            obtain ⟨z, hz, rfl⟩ := List.mem_map.1 (q2 y hy)
            exact isCell_strip1 (List.all_eq_true.1 e3 z (List.mem_of_mem_drop (List.mem_of_mem_take hz)))
      · cases h
    · cases h
  · cases h

/-- A block beside its elder version. -/
theorem SR.supC (h : SR g Pr σ H) {b : Nat} {vs vs' : List AV} (hC : g.C b = some vs) (hH : H.get b = some (.cells vs true)) (hd : H.dead.get (H.kinAt b) = none) (hp : ¬ Pr b) (U' : Nat → Option Pos)
    (hU : ∀ c p, g.C c ≠ none → p.still → g.U c = some p → c ≠ b ∧ U' c = some p) :
    SR ⟨g.μ, fun c => if c = H.next then some vs' else g.C c, U'⟩ Pr σ (H.sup b (.cells vs false) (.cells vs' true)) ∧ g.Le ⟨g.μ, fun c => if c = H.next then some vs' else g.C c, U'⟩ ∧
      UKeep g ⟨g.μ, fun c => if c = H.next then some vs' else g.C c, U'⟩ H (H.sup b (.cells vs false) (.cells vs' true)) ∧ Fr g Pr σ fl H (H.sup b (.cells vs false) (.cells vs' true)) := by
  have hl : g.Le ⟨g.μ, fun c => if c = H.next then some vs' else g.C c, U'⟩ := ⟨fun o b e => e, fun b ws e => by
    show (if b = H.next then some vs' else g.C b) = some ws
    rw [if_neg (by have := h.Clt e; omega)]; exact e⟩
  have hbn : b ≠ H.next := by have := h.Clt hC; omega
  have hk : ∀ c, c ≠ b → c ≠ H.next → Keep H (H.sup b (.cells vs false) (.cells vs' true)) c := fun c c1 c2 =>
    ⟨fun x hx => by rw [AH.get_sup, if_neg c2, if_neg c1]; exact hx, by rw [AH.oldAt_sup, if_neg c2, if_neg c1], by rw [AH.kinAt_sup, if_neg c2], fun hd => hd⟩
  have hn : ∀ c, g.C c ≠ none → c ≠ H.next := fun c hc e => by subst e; exact hc (h.Cnone (Nat.le_refl _))
  have hUK : UKeep g ⟨g.μ, fun c => if c = H.next then some vs' else g.C c, U'⟩ H (H.sup b (.cells vs false) (.cells vs' true)) := fun c p hc hs hu => ⟨(hU c p hc hs hu).2, hk c (hU c p hc hs hu).1 (hn c hc)⟩
  have hob : ∀ o b', Alive σ g o b' → b' ≠ b ∧ b' ≠ H.next := fun o b' hal => ⟨fun e => (by subst e; rw [(h.sep o _ hal).1] at hC; cases hC), by have := h.alt hal; omega⟩
  refine ⟨⟨h.len, ?_, ?_, ?_, ?_, ?_, ?_, ?_, ?_, fun k hk => h.dlow k (Nat.le_of_succ_le hk), h.pin, fun o b e => Nat.lt_succ_of_lt (h.blt o b e), fun b hb => h.tlow b (Nat.le_of_succ_le hb)⟩, hl, hUK, ⟨fun c hc => hk c (fun e => by subst e; exact hp hc) (hn c (h.pr c hc)), fun o b' _ hal => by
    obtain ⟨e1, e2⟩ := hob o b' hal
    rw [AH.get_sup, if_neg e2, if_neg e1], Nat.le_succ _, fun _ _ h => h⟩⟩
  · intro o y b' h1 h2
    by_cases hd : y = .dead
    · subst hd; trivial
    · have hal : Alive σ g o b' := ⟨h2, y, h1, hd⟩
      obtain ⟨e1, e2⟩ := hob o b' hal
      exact (h.obj o y b' h1 h2).keep hl (fun c j hc hu => hUK c _ hc trivial hu) (by rw [AH.get_sup, if_neg e2, if_neg e1]) (fun _ _ h => h)
  · intro c ws e
    simp only at e
    rw [AH.get_sup]
    by_cases e2 : c = H.next
    · rw [if_pos e2] at e ⊢
      simp only [Option.some.injEq] at e
      subst e
      exact ⟨true, rfl⟩
    · rw [if_neg e2] at e ⊢
      by_cases e3 : c = b
      · subst e3
        rw [hC] at e
        simp only [Option.some.injEq] at e
        subst e
        rw [if_pos rfl, hd]
        exact ⟨false, rfl⟩
      · rw [if_neg e3]; exact h.fro c ws e
  · intro c hp
    simp only
    split
    · simp
    · exact h.pr c hp
  · intro o b' hal
    obtain ⟨e1, e2⟩ := hob o b' hal
    simp only
    rw [if_neg e2, AH.oldAt_sup, if_neg e2, if_neg e1]
    exact h.sep o b' hal
  · intro o o' b1 b2 hal hal' hne
    obtain ⟨e1, e2⟩ := hob o b1 hal
    obtain ⟨e3, e4⟩ := hob o' b2 hal'
    rw [AH.kinAt_sup, AH.kinAt_sup, if_neg e2, if_neg e4]
    exact h.dist o o' b1 b2 hal hal' hne
  · intro o b' j hal hc
    obtain ⟨e1, e2⟩ := hob o b' hal
    rw [AH.kinAt_sup, AH.kinAt_sup, if_neg e2]
    simp only at hc
    by_cases e : j = H.next
    · rw [if_pos e]; exact h.kin o b' b hal (by rw [hC]; simp)
    · rw [if_neg e] at hc ⊢; exact h.kin o b' j hal hc
  · intro j hj
    rw [AH.kinAt_sup]
    rw [AH.get_sup] at hj
    show _ < H.next + 1
    by_cases e : j = H.next
    · rw [if_pos e]
      have := h.kinlt b (by rw [hH]; simp); omega
    · rw [if_neg e] at hj ⊢
      by_cases e3 : j = b
      · subst e3; have := h.kinlt j (by rw [hH]; simp); omega
      · rw [if_neg e3] at hj; have := h.kinlt j hj; omega
  · intro c hc
    have : H.next + 1 ≤ c := hc
    rw [AH.get_sup, if_neg (by omega), if_neg (by have := h.Clt hC; omega)]
    exact h.low c (by omega)
end
end Go.Vw
end
section
/- append; literals; texts and bytes. -/
namespace Go.Vw
open Go Go.RowKit Go.Abs

section
variable {P : Program} {g : Gh} {H : AH} {Pr : Nat → Prop} {σ : St} {ρ : VEnv} {ρA : Env} {call : CallF} {fl : Nat}

/-- An object goes over into a new one. -/
theorem SR.move (h : SR g Pr σ H) {o b : Nat} {vs cs : List V} {as na : List AV} {H' : AH} (hs : σ.get o = some (.cells vs)) (hb : g.blk o = some b) (hH : H.get b = some (.cells as true))
    (hn : H'.next = H.next + 1) (hnew : H'.get H.next = some (.cells na true)) (hoth : ∀ c, c ≠ b → c ≠ H.next → ¬ (H.oldAt c = true ∧ H.kinAt c = H.kinAt b) → H'.get c = H.get c)
    (hold : ∀ c, c ≠ b → c ≠ H.next → H'.oldAt c = H.oldAt c) (hold' : H'.oldAt H.next = false) (hkin : ∀ c, c ≠ b → c ≠ H.next → H'.kinAt c = H.kinAt c) (hkin' : H'.kinAt H.next = H.kinAt b ∨ H'.kinAt H.next = H.next) (hty : H'.ty = H.ty)
    (hdead : ∀ k, k ≠ H.kinAt b → H'.dead.get k = H.dead.get k) (hsome : ∀ c, H'.get c ≠ none → c = H.next ∨ (c ≠ H.next ∧ H.get c ≠ none ∧ H'.kinAt c = H.kinAt c)) (hv : VAs g (cs.map V.strip1) na) (hc : (cs.map V.strip1).all V.isCell = true) (hfl : fl ≤ o) :
    SR ⟨H.next :: g.μ, g.C, g.U⟩ Pr ((σ.put o .dead).push (.cells (cs.map V.strip1))) H' ∧ g.Le ⟨H.next :: g.μ, g.C, g.U⟩ ∧ UKeep g ⟨H.next :: g.μ, g.C, g.U⟩ H H' ∧ Gh.blk ⟨H.next :: g.μ, g.C, g.U⟩ σ.size = some H.next ∧ Fr g Pr σ fl H H' := by
  have hlen := h.len
  have halo : Alive σ g o b := ⟨hb, _, hs, fun e => by cases e⟩
  obtain ⟨hcb, hob⟩ := h.sep o b halo
  have hbk : ∀ o, Gh.blk ⟨H.next :: g.μ, g.C, g.U⟩ o = if o = σ.size then some H.next else g.blk o := fun o => by
    show blkO (_ :: _) o = _
    rw [blkO, hlen]; rfl
  have hl : g.Le ⟨H.next :: g.μ, g.C, g.U⟩ := ⟨fun o b e => by
    rw [hbk]
    have : o < g.μ.length := blkO_lt e
    rw [if_neg (by omega)]
    exact e, fun b vs e => e⟩
  have hCk : ∀ c, g.C c ≠ none → Keep H H' c := by
    intro c hc
    have h1 : c ≠ b := fun e => by subst e; exact hc hcb
    have h2 : c ≠ H.next := fun e => by subst e; exact hc (h.Cnone (Nat.le_refl _))
    have h3 := h.kin o b c halo hc
    exact ⟨fun x hx => by rw [hoth c h1 h2 (fun k => h3 k.2)]; exact hx, hold c h1 h2, hkin c h1 h2, fun hd => by rw [hdead _ h3]; exact hd⟩
  have hUK : UKeep g ⟨H.next :: g.μ, g.C, g.U⟩ H H' := fun c p hc _ hu => ⟨hu, hCk c hc⟩
  have hobj : ∀ o' b', Alive σ g o' b' → o' ≠ o → b' ≠ b ∧ b' ≠ H.next ∧ H'.get b' = H.get b' ∧ H'.oldAt b' = H.oldAt b' ∧ H'.kinAt b' = H.kinAt b' := by
    intro o' b' hal hne
    obtain ⟨d1, d2⟩ := h.dist o' o b' b hal halo hne
    have h2 : b' ≠ H.next := by have := h.alt hal; omega
    exact ⟨d1, h2, hoth b' d1 h2 (fun k => d2 k.2), hold b' d1 h2, hkin b' d1 h2⟩
  have hsz : o ≠ σ.size := by have := getO_lt (show getO σ.objs o = _ from hs); show o ≠ σ.objs.length; omega
  have hsg : ∀ j, ((σ.put o .dead).push (.cells (cs.map V.strip1))).get j = if j = σ.size then some (.cells (cs.map V.strip1)) else if j = o then some .dead else σ.get j := by
    intro j
    show (if j = (putO σ.objs o _).length then _ else getO (putO σ.objs o _) j) = _
    rw [length_putO]
    by_cases e : j = σ.size
    · rw [if_pos (show j = σ.objs.length from e), if_pos e]
    · rw [if_neg (show ¬ j = σ.objs.length from e), if_neg e]; exact get_put σ hs _ j
  have ha : ∀ o' b', Alive ((σ.put o .dead).push (.cells (cs.map V.strip1))) ⟨H.next :: g.μ, g.C, g.U⟩ o' b' → (o' = σ.size ∧ b' = H.next) ∨ (o' ≠ σ.size ∧ o' ≠ o ∧ Alive σ g o' b') := by
    rintro o' b' ⟨k1, x, k2, k3⟩
    rw [hbk] at k1
    rw [hsg] at k2
    by_cases e : o' = σ.size
    · rw [if_pos e] at k1; simp only [Option.some.injEq] at k1; exact .inl ⟨e, k1.symm⟩
    · rw [if_neg e] at k1 k2
      by_cases e2 : o' = o
      · rw [if_pos e2] at k2; simp only [Option.some.injEq] at k2; exact absurd k2.symm k3
      · rw [if_neg e2] at k2; exact .inr ⟨e, e2, k1, x, k2, k3⟩
  refine ⟨⟨?_, ?_, ?_, h.pr, ?_, ?_, ?_, ?_, ?_, ?_, fun o' y hy => by
    rw [hsg] at hy
    by_cases e : o' = σ.size
    · rw [if_pos e] at hy
      simp only [Option.some.injEq] at hy
      subst hy; subst e
      have := hv.isLow
      rw [hlen] at this
      exact V.lows_mono (by omega) _ this
    · rw [if_neg e] at hy
      by_cases e2 : o' = o
      · rw [if_pos e2] at hy; simp only [Option.some.injEq] at hy; subst hy; trivial
      · rw [if_neg e2] at hy; exact h.pin o' y hy, fun o' b' e => by
    rw [hbk] at e
    rw [hn]
    by_cases e2 : o' = σ.size
    · rw [if_pos e2] at e; simp only [Option.some.injEq] at e; omega
    · rw [if_neg e2] at e; have := h.blt o' b' e; omega, fun c hc => by rw [hty]; exact h.tlow c (by omega)⟩, hl, hUK, by rw [hbk, if_pos rfl], ⟨fun c hp => hCk c (h.pr c hp), fun o' b' h1 hal => (hobj o' b' hal (by omega)).2.2.1, by omega, fun c t k => by rw [hty]; exact k⟩⟩
  · show g.μ.length + 1 = (putO σ.objs o _).length + 1
    rw [length_putO, hlen]; rfl
  · intro o' x b' k1 k2
    rw [hbk] at k2
    rw [hsg] at k1
    by_cases e : o' = σ.size
    · rw [if_pos e] at k1 k2
      simp only [Option.some.injEq] at k1 k2
      subst k1; subst k2
      exact ⟨na, hnew, hv.mono hl, hc, OwnC.strip⟩
    · rw [if_neg e] at k1 k2
      by_cases e2 : o' = o
      · rw [if_pos e2] at k1; simp only [Option.some.injEq] at k1; subst k1; trivial
      · rw [if_neg e2] at k1
        by_cases hd : x = .dead
        · subst hd; trivial
        · exact (h.obj o' x b' k1 k2).keep hl (fun c j hc hu => hUK c _ hc trivial hu) (hobj o' b' ⟨k2, x, k1, hd⟩ e2).2.2.1 (fun c t k => by rw [hty]; exact k)
  · intro c ws e
    obtain ⟨own, e1⟩ := h.fro c ws e
    exact ⟨own, (hCk c (by rw [show g.C c = some ws from e]; simp)).get _ e1⟩
  · intro o' b' hal
    rcases ha o' b' hal with ⟨_, rfl⟩ | ⟨_, e, hal⟩
    · exact ⟨h.Cnone (Nat.le_refl _), hold'⟩
    · rw [(hobj o' b' hal e).2.2.2.1]; exact h.sep o' b' hal
  · intro o1 o2 b1 b2 hal hal' hne
    rcases ha o1 b1 hal with ⟨e1, rfl⟩ | ⟨e1, e2, hal⟩ <;> rcases ha o2 b2 hal' with ⟨e1', rfl⟩ | ⟨e1', e2', hal'⟩
    · omega
    · obtain ⟨q1, q2, _, _, q5⟩ := hobj o2 b2 hal' e2'
      refine ⟨fun e => q2 e.symm, ?_⟩
      rw [q5]
      rcases hkin' with k | k
      · rw [k]; exact (h.dist o o2 b b2 halo hal' (fun e => e2' e.symm)).2
      · rw [k]; have := h.kinlt b2 (h.alive hal'); omega
    · obtain ⟨q1, q2, _, _, q5⟩ := hobj o1 b1 hal e2
      refine ⟨q2, ?_⟩
      rw [q5]
      rcases hkin' with k | k
      · rw [k]; exact (h.dist o1 o b1 b hal halo e2).2
      · rw [k]; have := h.kinlt b1 (h.alive hal); omega
    · obtain ⟨q1, q2, _, _, q5⟩ := hobj o1 b1 hal e2
      obtain ⟨p1, p2, _, _, p5⟩ := hobj o2 b2 hal' e2'
      rw [q5, p5]
      exact h.dist o1 o2 b1 b2 hal hal' hne
  · intro o' b' j hal hc
    rw [(hCk j hc).kin]
    rcases ha o' b' hal with ⟨_, rfl⟩ | ⟨_, e, hal⟩
    · rcases hkin' with k | k
      · rw [k]; exact h.kin o b j halo hc
      · rw [k]
        have : H.get j ≠ none := by
          cases e : g.C j with
          | none => exact absurd e hc
          | some vs => obtain ⟨own, e1⟩ := h.fro j vs e; rw [e1]; simp
        have := h.kinlt j this; omega
    · rw [(hobj o' b' hal e).2.2.2.2]; exact h.kin o' b' j hal hc
  · intro j hj
    rw [hn]
    rcases hsome j hj with rfl | ⟨_, k, k2⟩
    · rcases hkin' with k | k
      · rw [k]; have := h.kinlt b (by rw [hH]; simp); omega
      · rw [k]; omega
    · rw [k2]; have := h.kinlt j k; omega
  · intro c hc
    rw [hn] at hc
    cases e : H'.get c with
    | none => rfl
    | some x =>
      rcases hsome c (by rw [e]; simp) with rfl | ⟨_, k, _⟩
      · omega
      · exact absurd (h.low c (by omega)) k
  · intro k hk
    rw [hn] at hk
    rw [hdead k (by have := h.kinlt b (by rw [hH]; simp); omega)]
    exact h.dlow k (by omega)

theorem tBytes_fits {bytes n : Nat} (h : fits bytes n) : n ≤ 140737488355328 ∧ n * bytes ≤ 140737488355328 := h

/-- What an append to what nobody writes comes to: cells behind cells, in a new block. -/
theorem newVec (hE : ER g H Pr ρ ρA) (hS : SR g Pr σ H) {els : List (List V)} {cells : List AV} {size : Nat} (hs : 0 < size) (hv : VAs g els.flatten cells) (hl : ∀ (i : Nat) (el : List V), els[i]? = some el → el.length = size ∧ el.all V.isCell = true) (cap : Option Nat) (hcap : (cap = none ∧ els ≠ []) ∨ ∃ c, cap = some c ∧ c ≤ els.length) :
    ∃ g', g.Le g' ∧ SR g' Pr σ (H.add (.cells cells true)) ∧ ER g' (H.add (.cells cells true)) Pr ρ ρA ∧ VA g' (.vec true els) (.slice H.next 0 els.length cap size) ∧ OwnV g' (H.add (.cells cells true)) Pr .val (.vec true els) (.slice H.next 0 els.length cap size) ∧ Fr g Pr σ fl H (H.add (.cells cells true)) := by
  obtain ⟨k1, k2, k3⟩ := hS.addC cells (fun b => if b = H.next then some (.val 0) else g.U b) (fun b p hc _ hu => by
    rw [if_neg (fun e => by subst e; exact hc (hS.Cnone (Nat.le_refl _)))]; exact hu)
  have hcl : cells.length = els.length * size := by rw [hv.length, flatten_length els (fun i el hi => (hl i el hi).1)]
  refine ⟨_, k2, k1, hE.keep k2 k3, ?_, ?_, fr_add hS _⟩
  · refine VA.ofFlat (vs := cells) (by simp) hs (by omega) hl ?_
    rw [List.drop_zero, ← hcl, List.take_length]
    exact hv.mono k2
  · refine OwnC.one (fun els' he => ?_)
    simp only [V.vec.injEq, true_and] at he
    subst he
    refine .inr ⟨H.next, 0, cap, size, rfl, ?_⟩
    rcases hcap with ⟨rfl, hne⟩ | ⟨c, h1, h2⟩
    · refine .inr ⟨rfl, hne, by simp, fun hp => hS.pr _ hp (hS.Cnone (Nat.le_refl _)), ?_, ?_, cells, ?_, by omega⟩
      · rw [AH.oldAt_add, if_pos rfl]
      · rw [AH.kinAt_add, if_pos rfl]; exact hS.dlow _ (Nat.le_refl _)
      · rw [AH.get_add, if_pos rfl]
    · exact .inl ⟨c, h1, h2⟩

theorem append_sim (hE : ER g H Pr ρ ρA) (hS : SR g Pr σ H) {wm : TypeId → Bool} {e : TypeId} {s x : V} {sa xa : AV} (h1 : VA g s sa) (ho : OwnV g H Pr .val s sa) (h2 : VA g x xa) {v : V} {σ1 : St} (h : appendV P wm fl σ e s x = some (v, σ1)) :
    ∃ a H' g', appendA P H e sa xa = some (a, H') ∧ g.Le g' ∧ SR g' Pr σ1 H' ∧ ER g' H' Pr ρ ρA ∧ VA g' v a ∧ OwnV g' H' Pr .val v a ∧ Fr g Pr σ fl H H' := by
  unfold appendV at h
  split at h
  · rename_i size bytes z hsize hbytes hzero
    split at h
    · rename_i hc
      obtain ⟨hpos, hzl⟩ := hc
      split at h
      · cases h
      · rename_i new hnew
        obtain ⟨nc, esz, hsrc, hesz, hnv, hnl⟩ := src_sim hS h2 hnew
        have hnca : new.flatten.all V.isCell = true := by
          rw [List.all_eq_true]
          intro y hy
          obtain ⟨l, hl, hy⟩ := List.mem_flatten.1 hy
          obtain ⟨i, hi⟩ := List.getElem?_of_mem hl
          exact List.all_eq_true.1 (hnl i l hi).2 y hy
        have hncs : (new.flatten.map V.strip1).all V.isCell = true := by
          rw [List.all_eq_true]
          intro y hy
          obtain ⟨z, hz, rfl⟩ := List.mem_map.1 hy
          exact isCell_strip1 (List.all_eq_true.1 hnca z hz)
        have hall : nc.all AV.isCell = true := hnv.allCell hnca
        have hfl2 := flatten_length new (fun i el hi => (hnl i el hi).1)
        have hncl := hnv.length
        have hcond : 0 < size ∧ z.length = size ∧ (new.length = 0 ∨ esz = size) ∧ nc.all AV.isCell = true := ⟨hpos, hzl, hesz, hall⟩
        split at h
        · rename_i own els
          split at h
          · rename_i hem
            simp only [Option.some.injEq, Prod.mk.injEq] at h
            obtain ⟨rfl, rfl⟩ := h
            have hn0 : new.length = 0 := by simpa using hem
            refine ⟨sa, H, g, ?_, Gh.Le.refl g, hS, hE, h1, ho, Fr.refl _ _ _ _ _⟩
            unfold appendA
            simp only [hsize, hbytes, hzero, hsrc]
            rw [if_pos hcond]
            cases h1 with
            | nils _ => simp only; rw [if_pos hn0]
            | vec _ _ b off cap _ vs k1 k2 k3 k4 k5 => simp only; rw [if_pos hn0]
          · rename_i hem
            have hn0 : ¬ new.length = 0 := by simpa using hem
            split at h
            · rename_i hc2
              obtain ⟨hfit, rfl, hsz⟩ := hc2
              obtain ⟨hf1, hf2⟩ := hfit
              have hsz' : ∀ (i : Nat) (el : List V), els[i]? = some el → el.length = size := fun i el hi => by
                have := List.all_eq_true.1 hsz el (List.mem_of_getElem? hi)
                simpa using this
              rcases ho 0 _ sa rfl (by cases h1 <;> rfl) els rfl with ⟨rfl, rfl⟩ | ⟨b, off, cap, esz', rfl, how⟩
              · -- nothing yet
                simp only [List.length_nil, Nat.zero_add, List.isEmpty_nil, if_true, List.nil_append] at h hf1 hf2
                have happ : appendA P H e .nils xa = some (.slice H.next 0 new.length none size, H.add (.cells nc true)) := by
                  unfold appendA
                  simp only [hsize, hbytes, hzero, hsrc]
                  rw [if_pos hcond, if_neg hn0, if_pos ⟨hf1, hf2⟩]
                split at h
                · simp only [Option.some.injEq, Prod.mk.injEq] at h
                  obtain ⟨rfl, rfl⟩ := h
                  obtain ⟨g', k1, k2, k3, k4, k5⟩ := pushCells (fl := fl) hE hS hnv.strip1 hncs OwnC.strip
                  exact ⟨_, _, g', happ, k1, k2, k3, .sl _ _ _ _ _ _ k4, OwnV.scalar (fun _ e => by cases e) rfl, k5⟩
                · simp only [Option.some.injEq, Prod.mk.injEq] at h
                  obtain ⟨rfl, rfl⟩ := h
                  obtain ⟨g', k1, k2, k3, k4, k5, k6⟩ := newVec (fl := fl) (ρ := ρ) (ρA := ρA) hE hS hpos hnv hnl none (.inl ⟨rfl, fun e => hn0 (by rw [e]; rfl)⟩)
                  exact ⟨_, _, g', happ, k1, k2, k3, k4, k5, k6⟩
              · obtain ⟨_, t2, t3, vs, t4, t5, t6⟩ := h1.toFlat
                obtain ⟨ow, e1⟩ := hS.fro b vs t4
                -- the size of its elements
                have heq : els ≠ [] → esz' = size := by
                  intro hne
                  cases els with
                  | nil => exact absurd rfl hne
                  | cons el r => rw [← (t3 0 el rfl).1, hsz' 0 el rfl]
                by_cases hnil : els = []
                · subst hnil
                  have hcap : cap = some 0 := by
                    rcases how with ⟨c, rfl, hcl⟩ | ⟨_, h, _⟩
                    · simp at hcl; rw [hcl]
                    · exact absurd rfl h
                  subst hcap
                  simp only [List.length_nil, Nat.zero_add, List.isEmpty_nil, if_true, List.nil_append] at h hf1 hf2
                  have happ : appendA P H e (.slice b off ([] : List (List V)).length (some 0) esz') xa = some (.slice H.next 0 new.length none size, H.add (.cells nc true)) := by
                    unfold appendA
                    simp only [hsize, hbytes, hzero, hsrc]
                    rw [if_pos hcond, if_neg hn0, if_pos (by simp), if_pos ⟨hf1, hf2⟩]
                  split at h
                  · simp only [Option.some.injEq, Prod.mk.injEq] at h
                    obtain ⟨rfl, rfl⟩ := h
                    obtain ⟨g', k1, k2, k3, k4, k5⟩ := pushCells (fl := fl) hE hS hnv.strip1 hncs OwnC.strip
                    exact ⟨_, _, g', happ, k1, k2, k3, .sl _ _ _ _ _ _ k4, OwnV.scalar (fun _ e => by cases e) rfl, k5⟩
                  · simp only [Option.some.injEq, Prod.mk.injEq] at h
                    obtain ⟨rfl, rfl⟩ := h
                    obtain ⟨g', k1, k2, k3, k4, k5, k6⟩ := newVec (fl := fl) (ρ := ρ) (ρA := ρA) hE hS hpos hnv hnl none (.inl ⟨rfl, fun e => hn0 (by rw [e]; rfl)⟩)
                    exact ⟨_, _, g', happ, k1, k2, k3, k4, k5, k6⟩
                · have hes := heq hnil
                  subst hes
                  have hwm : wm e = false := by
                    cases hw : wm e with
                    | false => rfl
                    | true =>
                      rw [if_pos hw] at h
                      have : els.isEmpty = false := by cases els <;> first | exact absurd rfl hnil | rfl
                      rw [this] at h
                      simp at h
                  rw [if_neg (by rw [hwm]; simp)] at h
                  simp only [Option.some.injEq, Prod.mk.injEq] at h
                  obtain ⟨rfl, rfl⟩ := h
                  have hlen0 : ¬ (els.length = 0 ∧ (cap : Option Nat) = some 0) := fun k => hnil (List.eq_nil_of_length_eq_zero k.1)
                  have hrd := rd_cut e1 t5
                  have hov : VAs g (els ++ new).flatten ((vs.drop off).take (els.length * esz') ++ nc) := by
                    rw [List.flatten_append]; exact t6.append hnv
                  have hol : ∀ (i : Nat) (el : List V), (els ++ new)[i]? = some el → el.length = esz' ∧ el.all V.isCell = true := by
                    intro i el hi
                    rw [List.getElem?_append] at hi
                    split at hi
                    · exact t3 i el hi
                    · exact hnl _ el hi
                  have hne2 : els ++ new ≠ [] := fun e => hnil (List.append_eq_nil_iff.1 e).1
                  rcases how with ⟨c, rfl, hcl⟩ | ⟨rfl, hne, hu, hpr, hold, hdead, vs2, hH, hend⟩
                  · have happ : appendA P H e (.slice b off els.length (some c) esz') xa = some (.slice H.next 0 (els.length + new.length) none esz', H.add (.cells ((vs.drop off).take (els.length * esz') ++ nc) true)) := by
                      unfold appendA
                      simp only [hsize, hbytes, hzero, hsrc]
                      rw [if_pos hcond, if_neg hn0, if_neg hlen0, if_pos ⟨trivial, hf1, hf2⟩, hrd]
                      simp only
                      rw [if_pos (by omega)]
                    obtain ⟨g', k1, k2, k3, k4, k5, k6⟩ := newVec (fl := fl) (ρ := ρ) (ρA := ρA) hE hS hpos hov hol none (.inl ⟨rfl, hne2⟩)
                    rw [List.length_append] at k4 k5
                    exact ⟨_, _, g', happ, k1, k2, k3, k4, k5, k6⟩
                  · have he : vs2 = vs := by rw [e1] at hH; simp only [Option.some.injEq, AObj.cells.injEq] at hH; exact hH.1.symm
                    subst he
                    have happ : appendA P H e (.slice b off els.length none esz') xa = some (.slice H.next 0 (els.length + new.length) none esz', H.sup b (.cells vs2 false) (.cells ((vs2.drop off).take (els.length * esz') ++ nc) true)) := by
                      unfold appendA
                      simp only [hsize, hbytes, hzero, hsrc]
                      rw [if_pos hcond, if_neg hn0, if_neg hlen0, if_pos ⟨trivial, hf1, hf2⟩, hrd]
                      simp only [hH]
                      rw [if_pos hend]
                    obtain ⟨k1, k2, k3, k4⟩ := hS.supC (fl := fl) (vs' := (vs2.drop off).take (els.length * esz') ++ nc) t4 hH hdead hpr (fun c => if c = H.next then some (.val 0) else g.U c) (fun c p hc hs hu' => by
                      refine ⟨fun e => ?_, ?_⟩
                      · subst e
                        rw [hu] at hu'
                        simp only [Option.some.injEq] at hu'
                        subst hu'
                        exact hs
                      · rw [if_neg (fun e => by subst e; exact hc (hS.Cnone (Nat.le_refl _)))]; exact hu')
                    have hcl : ((vs2.drop off).take (els.length * esz') ++ nc).length = (els ++ new).length * esz' := by
                      rw [hov.length, flatten_length _ (fun i el hi => (hol i el hi).1)]
                    refine ⟨_, _, _, happ, k2, k1, hE.keep k2 k3, ?_, ?_, k4⟩
                    · have := VA.ofFlat (g := ⟨g.μ, fun c => if c = H.next then some ((vs2.drop off).take (els.length * esz') ++ nc) else g.C c, fun c => if c = H.next then some (.val 0) else g.U c⟩) (own := true) (els := els ++ new) (b := H.next) (off := 0) (cap := none) (esz := esz') (vs := (vs2.drop off).take (els.length * esz') ++ nc) (by simp) hpos (by omega) hol (by
                        rw [List.drop_zero, ← hcl, List.take_length]
                        exact hov.mono k2)
                      rw [List.length_append] at this
                      exact this
                    · refine OwnC.one (fun els' he => ?_)
                      simp only [V.vec.injEq, true_and] at he
                      subst he
                      refine .inr ⟨H.next, 0, none, esz', by rw [List.length_append], .inr ⟨rfl, hne2, by simp, fun hp => hS.pr _ hp (hS.Cnone (Nat.le_refl _)), ?_, ?_, (vs2.drop off).take (els.length * esz') ++ nc, ?_, ?_⟩⟩
                      · rw [AH.oldAt_sup, if_pos rfl]
                      · rw [AH.kinAt_sup, if_pos rfl]; exact hdead
                      · rw [AH.get_sup, if_pos rfl]
                      · omega
            · cases h
        · rename_i o off len cap esz'
          cases h1 with
          | sl _ _ _ b _ _ hb =>
          split at h
          · rename_i hem
            simp only [Option.some.injEq, Prod.mk.injEq] at h
            obtain ⟨rfl, rfl⟩ := h
            have hn0 : new.length = 0 := by simpa using hem
            refine ⟨_, H, g, ?_, Gh.Le.refl g, hS, hE, .sl _ _ _ _ _ _ hb, ho, Fr.refl _ _ _ _ _⟩
            unfold appendA
            simp only [hsize, hbytes, hzero, hsrc]
            rw [if_pos hcond]
            rw [if_pos hn0]
          · rename_i hem
            have hn0 : ¬ new.length = 0 := by simpa using hem
            split at h
            · rename_i hc2
              obtain ⟨hfit, rfl, hflo, _⟩ := hc2
              obtain ⟨hf1, hf2⟩ := hfit
              split at h
              · rename_i vs hs
                obtain ⟨as, e1, e2, e3, e4⟩ := hS.obj o _ b hs hb
                have hasl := e2.length
                split at h
                · rename_i old hcut
                  obtain ⟨hle, rfl⟩ := cutC_some hcut
                  have hrd := rd_cut (own := true) (off := off) (n := len * esz') e1 (by omega)
                  have hov : VAs g (((vs.drop off).take (len * esz') ++ new.flatten).map V.strip1) ((as.drop off).take (len * esz') ++ nc) := (((e2.drop off).take _).append hnv).strip1
                  have hoc : (((vs.drop off).take (len * esz') ++ new.flatten).map V.strip1).all V.isCell = true := by
                    rw [List.all_eq_true]
                    intro y hy
                    obtain ⟨z, hz, rfl⟩ := List.mem_map.1 hy
                    rcases List.mem_append.1 hz with hz | hz
                    · exact isCell_strip1 (List.all_eq_true.1 e3 z (List.mem_of_mem_drop (List.mem_of_mem_take hz)))
                    · exact isCell_strip1 (List.all_eq_true.1 hnca z hz)
                  split at h
                  · rename_i c
                    split at h
                    · rename_i hlt
                      simp only [Option.some.injEq, Prod.mk.injEq] at h
                      obtain ⟨rfl, rfl⟩ := h
                      have happ : appendA P H e (.slice b off len (some c) esz') xa = some (.slice H.next 0 (len + new.length) none esz', H.add (.cells ((as.drop off).take (len * esz') ++ nc) true)) := by
                        unfold appendA
                        simp only [hsize, hbytes, hzero, hsrc]
                        rw [if_pos hcond, if_neg hn0]
                        by_cases hz : len = 0 ∧ (some c : Option Nat) = some 0
                        · rw [if_pos hz]
                          obtain ⟨rfl, _⟩ := hz
                          simp only [Nat.zero_add, Nat.zero_mul, List.take_zero, List.nil_append] at hf1 hf2 ⊢
                          rw [if_pos ⟨hf1, hf2⟩]
                        · rw [if_neg hz, if_pos ⟨trivial, hf1, hf2⟩, hrd]
                          simp only
                          rw [if_pos hlt]
                      obtain ⟨g', k1, k2, k3, k4, k5⟩ := pushCells (fl := fl) hE hS hov hoc OwnC.strip
                      exact ⟨_, _, g', happ, k1, k2, k3, .sl _ _ _ _ _ _ k4, OwnV.scalar (fun _ e => by cases e) rfl, k5⟩
                    · cases h
                  · simp only [Option.some.injEq, Prod.mk.injEq] at h
                    obtain ⟨rfl, rfl⟩ := h
                    have halo : Alive σ g o b := ⟨hb, _, hs, fun e => by cases e⟩
                    obtain ⟨_, hold⟩ := hS.sep o b halo
                    have hbn : b ≠ H.next := by have := hS.alt halo; omega
                    have hmain : ∀ H' : AH, H'.next = H.next + 1 → H'.get H.next = some (.cells ((as.drop off).take (len * esz') ++ nc) true) → (∀ c, c ≠ b → c ≠ H.next → ¬ (H.oldAt c = true ∧ H.kinAt c = H.kinAt b) → H'.get c = H.get c) →
                        (∀ c, c ≠ b → c ≠ H.next → H'.oldAt c = H.oldAt c) → H'.oldAt H.next = false → (∀ c, c ≠ b → c ≠ H.next → H'.kinAt c = H.kinAt c) → (H'.kinAt H.next = H.kinAt b ∨ H'.kinAt H.next = H.next) → H'.ty = H.ty → (∀ k, k ≠ H.kinAt b → H'.dead.get k = H.dead.get k) →
                        (∀ c, H'.get c ≠ none → c = H.next ∨ (c ≠ H.next ∧ H.get c ≠ none ∧ H'.kinAt c = H.kinAt c)) → appendA P H e (.slice b off len none esz') xa = some (.slice H.next 0 (len + new.length) none esz', H') →
                        ∃ a H' g', appendA P H e (.slice b off len none esz') xa = some (a, H') ∧ g.Le g' ∧ SR g' Pr ((σ.put o .dead).push (.cells (((vs.drop off).take (len * esz') ++ new.flatten).map V.strip1))) H' ∧ ER g' H' Pr ρ ρA ∧ VA g' (.sl σ.size 0 (len + new.length) none esz') a ∧ OwnV g' H' Pr .val (.sl σ.size 0 (len + new.length) none esz') a ∧ Fr g Pr σ fl H H' := by
                      intro H' q1 q2 q3 q4 q5 q6 q7 qt q8 q9 happ
                      obtain ⟨k1, k2, k3, k4, k5⟩ := hS.move (fl := fl) hs hb e1 q1 q2 q3 q4 q5 q6 q7 qt q8 q9 hov hoc hflo
                      exact ⟨_, H', _, happ, k2, k1, hE.keep k2 k3, .sl _ _ _ _ _ _ k4, OwnV.scalar (fun _ e => by cases e) rfl, k5⟩
                    by_cases hend : off + len * esz' = as.length
                    · refine hmain (H.sup b (.cells as false) (.cells ((as.drop off).take (len * esz') ++ nc) true)) rfl (by rw [AH.get_sup, if_pos rfl]) (fun c c1 c2 _ => by rw [AH.get_sup, if_neg c2, if_neg c1]) (fun c c1 c2 => by rw [AH.oldAt_sup, if_neg c2, if_neg c1])
                        (by rw [AH.oldAt_sup, if_pos rfl]) (fun c _ c2 => by rw [AH.kinAt_sup, if_neg c2]) (.inl (by rw [AH.kinAt_sup, if_pos rfl])) rfl (fun _ _ => rfl) (fun c hc => ?_) ?_
                      · rw [AH.get_sup] at hc
                        by_cases e : c = H.next
                        · exact .inl e
                        · right
                          rw [if_neg e] at hc
                          refine ⟨e, ?_, by rw [AH.kinAt_sup, if_neg e]⟩
                          by_cases e2 : c = b
                          · subst e2; rw [e1]; simp
                          · rw [if_neg e2] at hc; exact hc
                      · unfold appendA
                        simp only [hsize, hbytes, hzero, hsrc]
                        rw [if_pos hcond, if_neg hn0, if_neg (by simp), if_pos ⟨trivial, hf1, hf2⟩, hrd]
                        simp only [e1]
                        rw [if_pos hend]
                    · refine hmain ((H.drop b).add (.cells ((as.drop off).take (len * esz') ++ nc) true)) rfl (by rw [AH.get_add, show (H.drop b).next = H.next from rfl, if_pos rfl]) (fun c c1 c2 hns => by rw [AH.get_add, show (H.drop b).next = H.next from rfl, if_neg c2, AH.get_drop, if_neg c1, if_neg hns])
                        (fun c c1 c2 => by rw [AH.oldAt_add, show (H.drop b).next = H.next from rfl, if_neg c2, AH.oldAt_drop _ _ _ c1]) (by rw [AH.oldAt_add, show (H.drop b).next = H.next from rfl, if_pos rfl]) (fun c c1 c2 => by rw [AH.kinAt_add, show (H.drop b).next = H.next from rfl, if_neg c2, AH.kinAt_drop _ _ _ c1])
                        (.inr (by rw [AH.kinAt_add, show (H.drop b).next = H.next from rfl, if_pos rfl])) rfl (fun k hk => ?_) (fun c hc => ?_) ?_
                      · show (H.kill b).dead.get k = _
                        rw [AH.dead_kill, if_neg hk]
                      · rw [AH.get_add, show (H.drop b).next = H.next from rfl] at hc
                        by_cases e : c = H.next
                        · exact .inl e
                        · right
                          rw [if_neg e, AH.get_drop] at hc
                          by_cases e2 : c = b
                          · rw [if_pos e2] at hc; exact absurd rfl hc
                          · rw [if_neg e2] at hc
                            refine ⟨e, fun e3 => ?_, by rw [AH.kinAt_add, show (H.drop b).next = H.next from rfl, if_neg e, AH.kinAt_drop _ _ _ e2]⟩
                            split at hc
                            · exact hc rfl
                            · exact hc e3
                      · unfold appendA
                        simp only [hsize, hbytes, hzero, hsrc]
                        rw [if_pos hcond, if_neg hn0, if_neg (by simp), if_pos ⟨trivial, hf1, hf2⟩, hrd]
                        simp only [e1]
                        rw [if_neg hend]
                · cases h
              · cases h
            · cases h
        · cases h
    · cases h
  · cases h
theorem appendT_sim (hE : ER g H Pr ρ ρA) (hS : SR g Pr σ H) {wm : TypeId → Bool} {e : TypeId} {s x : V} {sa xa : AV} (h1 : VA g s sa) (ho : OwnV g H Pr .val s sa) (h2 : VA g x xa) {v : V} {σ1 : St} (h : appendV P wm fl σ e s x = some (v, σ1)) :
    ∃ a H' g', appendT P H e sa xa = some (a, H') ∧ g.Le g' ∧ SR g' Pr σ1 H' ∧ ER g' H' Pr ρ ρA ∧ VA g' v a ∧ OwnV g' H' Pr .val v a ∧ Fr g Pr σ fl H H' := by
  obtain ⟨a, H', g', k1, k2, k3, k4, k5, k6, k7⟩ := append_sim hE hS h1 ho h2 h
  refine ⟨a, tagS H e sa a H', g', by unfold appendT; rw [k1]; rfl, ?_⟩
  rcases tagS_cases2 H e sa a H' with q | ⟨q1, q⟩
  · rw [q]; exact ⟨k2, k3, k4, k5, k6, k7⟩
  · rw [q]
    have := k7.next
    exact ⟨k2, k3.tag (by omega) _, k4.tag _ _, k5, k6.tag k5 _ _, k7.tag _ _⟩
end
end Go.Vw
end
section
/- Literals, texts and bytes, maps. -/
namespace Go.Vw
open Go Go.RowKit Go.Abs

section
variable {P : Program} {g : Gh} {H : AH} {Pr : Nat → Prop} {σ : St} {ρ : VEnv} {ρA : Env} {call : CallF} {fl : Nat}

theorem strip1_idem (v : V) : v.strip1.strip1 = v.strip1 := by cases v <;> rfl
theorem fill_VA (place : Nat → Option (Nat × Nat)) : ∀ (ps : List (Nat × V)) (pa : List (Nat × AV)) (z : List V) (za : List AV) (cs : List V), pa.length = ps.length → (∀ (i : Nat) (q : Nat × V), ps[i]? = some q → ∃ a, pa[i]? = some (q.1, a) ∧ VA g q.2 a) → VAs g z za → fillV place z ps = some cs → ∃ ca, fillA place za pa = some ca ∧ VAs g cs ca ∧ cs.length = z.length
  | [], [], z, za, cs, _, _, hz, h => by
    simp only [fillV, Option.some.injEq] at h
    subst h
    exact ⟨za, rfl, hz, rfl⟩
  | [], _ :: _, _, _, _, hl, _, _, _ => by simp at hl
  | _ :: _, [], _, _, _, hl, _, _, _ => by simp at hl
  | (i, v) :: ps, (i', a) :: pa, z, za, cs, hl, hp, hz, h => by
    obtain ⟨a', h1, h2⟩ := hp 0 (i, v) rfl
    simp only [List.getElem?_cons_zero, Option.some.injEq, Prod.mk.injEq] at h1
    obtain ⟨rfl, rfl⟩ := h1
    simp only [fillV] at h
    simp only [fillA]
    cases hpl : place i' with
    | none => rw [hpl] at h; cases h
    | some q =>
      obtain ⟨off, size⟩ := q
      rw [hpl] at h
      simp only at h ⊢
      split at h
      · rename_i hc
        have hcl : a.cells.length = v.cells.length := (h2.cells hc.1).length
        have hzl := hz.length
        rw [if_pos ⟨h2.isVal hc.1, by omega, by omega⟩]
        obtain ⟨ca, k1, k2, k3⟩ := fill_VA place ps pa _ _ cs (by simpa using hl) (fun i q hi => by simpa using hp (i + 1) q (by simpa using hi)) (hz.splice (h2.cells hc.1) off) h
        refine ⟨ca, k1, k2, ?_⟩
        rw [k3]
        simp only [splice, List.length_append, List.length_take, List.length_drop]
        omega
      · cases h

theorem replicate_VAs {z : List V} {za : List AV} (h : VAs g z za) : ∀ n, VAs g ((List.replicate n z).flatten) ((List.replicate n za).flatten)
  | 0 => .nil
  | n + 1 => by
    rw [List.replicate_succ, List.replicate_succ, List.flatten_cons, List.flatten_cons]
    exact h.append (replicate_VAs h n)
theorem replicate_len {α : Type} (z : List α) : ∀ n, ((List.replicate n z).flatten).length = n * z.length
  | 0 => by simp
  | n + 1 => by rw [List.replicate_succ, List.flatten_cons, List.length_append, replicate_len z n, Nat.add_mul]; omega
theorem parts_VA (hE : ER g H Pr ρ ρA) (l : List (Nat × Operand)) : ∀ (i : Nat) (q : Nat × V), (l.map fun p => (p.1, evalC ρ p.2))[i]? = some q → ∃ a, (l.map fun p => (p.1, evalE ρA p.2))[i]? = some (q.1, a) ∧ VA g q.2 a := by
  intro i q hi
  rw [List.getElem?_map] at hi ⊢
  cases e : l[i]? with
  | none => rw [e] at hi; cases hi
  | some x =>
    rw [e] at hi
    simp only [Option.map_some, Option.some.injEq] at hi
    subst hi
    exact ⟨_, rfl, evalC_VA hE x.2⟩

theorem buildSlice_sim {tk : Bool} {c : Cx} (hE : ER g H Pr ρ ρA) (hS : SR g Pr σ H) {t : TypeId} {len : Nat} {parts : Array (Nat × Operand)} {v : V} {ρ1 : VEnv} {σ1 : St} (h : vOp c tk ρ (.buildSlice t len parts) σ = some (v, ρ1, σ1)) : OpSim c.P call g Pr σ c.fl H ρA (.buildSlice t len parts) v ρ1 σ1 := by
  simp only [vOp] at h
  cases he : tElem c.P t with
  | none => rw [he] at h; cases h
  | some e =>
    rw [he] at h
    simp only at h
    cases hs : tSize c.P e with
    | none => rw [hs] at h; cases h
    | some s =>
      cases hz : tZeroV c.P e with
      | none => rw [hs, hz] at h; cases h
      | some z =>
        rw [hs, hz] at h
        simp only at h
        split at h
        · rename_i hc
          obtain ⟨hc1, hc2, hc3⟩ := hc
          unfold tZeroV at hz
          simp only [Option.map_eq_some_iff] at hz
          obtain ⟨u, hu, rfl⟩ := hz
          have hza : tZero c.P e = some (u.cells.toList.map ofVal) := by unfold tZero; rw [hu]; rfl
          split at h
          · rename_i cs hf
            obtain ⟨ca, k1, k2, k3⟩ := fill_VA (g := g) _ _ (parts.toList.map fun p => (p.1, evalE ρA p.2)) _ ((List.replicate len (u.cells.toList.map ofVal)).flatten) cs (by simp) (parts_VA hE parts.toList) (replicate_VAs (ofVals_VA _).strip1 len) hf
            rw [replicate_len, List.length_map, hc3] at k3
            split at h
            · rename_i hcell
              have heval : evOpE c.P call (evalE ρA) (.buildSlice t len parts) H = some (.slice H.next 0 len (some len) s, H.add (.cells ca true)) := by
                simp only [evOpE, he, hs, hza]
                rw [if_pos ⟨hc1, hc2, by simpa using hc3⟩, k1]
                simp only [mk_some (k2.allCell hcell), Option.map_some]
              split at h
              · simp only [Option.some.injEq, Prod.mk.injEq] at h
                obtain ⟨rfl, rfl, rfl⟩ := h
                obtain ⟨g', q1, q2, q3, q4, q5⟩ := pushCells (fl := c.fl) hE hS k2.strip1 (by
                  rw [List.all_eq_true]
                  intro y hy
                  obtain ⟨x, hx, rfl⟩ := List.mem_map.1 hy
                  exact isCell_strip1 (List.all_eq_true.1 hcell x hx)) OwnC.strip
                exact ⟨_, _, g', heval, q1, q2, q3, .sl _ _ _ _ _ _ q4, OwnV.scalar (fun _ e => by cases e) rfl, q5⟩
              · simp only [Option.some.injEq, Prod.mk.injEq] at h
                obtain ⟨rfl, rfl, rfl⟩ := h
                obtain ⟨g', q1, q2, q3, q4, q5, q6⟩ := newVec (fl := c.fl) hE hS (els := chunk s len cs) (cells := ca) hc2 (by rw [chunk_flatten s len cs k3]; exact k2) (fun i el hi => by
                  obtain ⟨p1, p2⟩ := chunk_get s len cs k3 i el hi
                  exact ⟨p1, List.all_eq_true.2 fun y hy => List.all_eq_true.1 hcell y (p2 y hy)⟩) (some len) (.inr ⟨len, rfl, by rw [chunk_length]; exact Nat.le_refl _⟩)
                rw [chunk_length] at q4 q5
                exact ⟨_, _, g', heval, q1, q2, q3, q4, q5, q6⟩
            · cases h
          · cases h
        · cases h

theorem unbytes_sim : ∀ {els : List (List V)} {cells : List AV} {s : List UInt8}, unbytesV els = some s → VAs g els.flatten cells → unbytes cells = some s ∧ (∀ (i : Nat) (el : List V), els[i]? = some el → el.length = 1)
  | [], cells, s, h, hv => by
    simp only [unbytesV, Option.some.injEq] at h
    subst h
    cases hv
    exact ⟨rfl, fun i el hi => by simp at hi⟩
  | [x] :: l, cells, s, h, hv => by
    simp only [unbytesV] at h
    split at h
    · rename_i c r hx hr
      simp only [Option.some.injEq] at h
      subst h
      rw [List.flatten_cons] at hv
      cases hv with
      | cons _ a _ ca h1 h2 =>
        obtain ⟨k1, k2⟩ := unbytes_sim hr h2
        have : unbyte a = some c := by
          unfold unbyteV at hx
          split at hx
          · cases h1; exact hx
          · cases hx
        refine ⟨by simp only [unbytes, this, k1], fun i el hi => ?_⟩
        cases i with
        | zero => simp only [List.getElem?_cons_zero, Option.some.injEq] at hi; subst hi; rfl
        | succ i => exact k2 i el (by simpa using hi)
    · cases h
  | [] :: l, cells, s, h, hv => by simp [unbytesV] at h
  | (_ :: _ :: _) :: l, cells, s, h, hv => by simp [unbytesV] at h

theorem conv_sim (hE : ER g H Pr ρ ρA) (hS : SR g Pr σ H) {s d : TypeId} {x : Operand} {v : V} (h : convV P s d (evalV ρ x) = some v) : OpSim P call g Pr σ fl H ρA (.convert s d x) v ρ σ := by
  have hx := evalV_VA hE x
  unfold convV at h
  split at h
  · rename_i k _ n hs hd hxe
    rw [hxe] at hx
    simp only [Option.map_eq_some_iff] at h
    obtain ⟨u, hu, rfl⟩ := h
    generalize hq : evalE ρA x = xa at hx
    cases hx
    refine quietS (a := ofVal u) hE hS ?_ (ofVal_VA u) (OwnV.val u)
    have hz : isConvH P s d = false := by
      unfold isConvH
      rw [hd]
      split <;> first | rfl | simp_all
    simp only [evOpE, hz, Bool.false_eq_true, if_false, convA, hs, hd, hq, hu, Option.map_some]
  · rename_i st hs hd hxe
    rw [hxe] at hx
    simp only [Option.some.injEq] at h
    subst h
    generalize hq : evalE ρA x = xa at hx
    cases hx
    refine quietS (a := .str st) hE hS ?_ (.str _) (OwnV.scalar (fun _ e => by cases e) rfl)
    have hz : isConvH P s d = false := by unfold isConvH; rw [hs, hd]
    simp only [evOpE, hz, Bool.false_eq_true, if_false, convA, hs, hd, hq, Option.map_some]
  · rename_i e st hs hd hxe
    rw [hxe] at hx
    generalize hq : evalE ρA x = xa at hx
    cases hx
    split at h
    · rename_i he
      split at h
      · rename_i hsz
        simp only [Option.some.injEq] at h
        subst h
        have hz : isConvH P s d = true := by unfold isConvH; rw [hs, hd]
        have heval : evOpE P call (evalE ρA) (.convert s d x) H = some (.slice H.next 0 st.length none 1, H.add (.cells (st.map byteCell) true)) := by
          simp only [evOpE, hz, if_true, convH, hs, hd, hq, he, hsz]
        have hfl : (st.map fun c => [byteCellV c]).flatten = st.map byteCellV := by
          clear heval hq hxe
          induction st with
          | nil => rfl
          | cons c r ih => simp [ih]
        have hva : VAs g (st.map byteCellV) (st.map byteCell) := by
          clear heval hq hxe hfl
          induction st with
          | nil => exact .nil
          | cons c r ih => exact .cons _ _ _ _ (.int _ _) ih
        have hel : ∀ (i : Nat) (el : List V), (st.map fun c => [byteCellV c])[i]? = some el → el.length = 1 ∧ el.all V.isCell = true := by
          intro i el hi
          rw [List.getElem?_map] at hi
          cases e : st[i]? with
          | none => rw [e] at hi; cases hi
          | some c => rw [e] at hi; simp only [Option.map_some, Option.some.injEq] at hi; subst hi; exact ⟨rfl, rfl⟩
        by_cases hem : st = []
        · subst hem
          obtain ⟨k1, k2, k3⟩ := hS.addC [] g.U (fun _ _ _ _ h => h)
          refine ⟨_, _, _, heval, k2, k1, hE.keep k2 k3, ?_, OwnV.scalar (fun _ e => by cases e) rfl, fr_add hS _⟩
          exact VA.ofFlat (els := []) (vs := []) (by simp) (by omega) (by simp) (fun i el hi => by simp at hi) (by simpa using VAs.nil)
        · obtain ⟨g', k1, k2, k3, k4, k5, k6⟩ := newVec (fl := fl) hE hS (els := st.map fun c => [byteCellV c]) (cells := st.map byteCell) (by omega) (by rw [hfl]; exact hva) hel none (.inl ⟨rfl, by simpa using hem⟩)
          rw [List.length_map] at k4 k5
          have : (!st.isEmpty) = true := by cases st <;> first | exact absurd rfl hem | rfl
          rw [this]
          exact ⟨_, _, g', heval, k1, k2, k3, k4, k5, k6⟩
      · cases h
    · cases h
  · rename_i e own els hs hd hxe
    rw [hxe] at hx
    generalize hq : evalE ρA x = xa at hx
    split at h
    · rename_i he
      simp only [Option.map_eq_some_iff] at h
      obtain ⟨st, hst, rfl⟩ := h
      have hz : isConvH P s d = true := by unfold isConvH; rw [hs, hd]
      cases hx with
      | nils _ =>
        simp only [unbytesV, Option.some.injEq] at hst
        subst hst
        refine quietS (a := .str []) hE hS ?_ (.str _) (OwnV.scalar (fun _ e => by cases e) rfl)
        simp only [evOpE, hz, if_true, convH, hs, hd, hq, he]
      | vec _ _ b off cap esz vs h1 h2 h3 h4 h5 =>
        obtain ⟨_, _, _, vs', k1, k2, k3⟩ := VA.toFlat (VA.vec own els b off cap esz vs h1 h2 h3 h4 h5)
        rw [h1] at k1
        simp only [Option.some.injEq] at k1
        subst k1
        obtain ⟨q1, q2⟩ := unbytes_sim hst k3
        refine quietS (a := .str st) hE hS ?_ (.str _) (OwnV.scalar (fun _ e => by cases e) rfl)
        simp only [evOpE, hz, if_true, convH, hs, hd, hq, he]
        by_cases hl : els.length = 0
        · rw [if_pos hl]
          have : els = [] := List.eq_nil_of_length_eq_zero hl
          subst this
          simp only [unbytesV, Option.some.injEq] at hst
          subst hst
          rfl
        · rw [if_neg hl]
          have hesz : esz = 1 := by
            cases els with
            | nil => exact absurd rfl hl
            | cons el r => rw [← (h4 0 el rfl).1, q2 0 el rfl]
          subst hesz
          rw [if_pos rfl]
          obtain ⟨own', e1⟩ := hS.fro b vs h1
          rw [rd_cut e1 (by omega : off + els.length ≤ vs.length)]
          rw [Nat.mul_one] at q1
          simp only [Option.bind_some, q1]
    · cases h
  · cases h
end
end Go.Vw
end
section
/- Structs, maps; each operation. -/
namespace Go.Vw
open Go Go.RowKit Go.Abs

section
variable {P : Program} {g : Gh} {H : AH} {Pr : Nat → Prop} {σ : St} {ρ : VEnv} {ρA : Env} {call : CallF} {fl : Nat}

theorem fill_own {tk : Bool} (place : Nat → Option (Nat × Nat)) : ∀ (l : List (Nat × Operand)) (g : Gh) (ρ : VEnv) (z : List V) (za : List AV) (cs : List V), ER g H Pr ρ ρA → SR g Pr σ H → VAs g z za → OwnC g H Pr .part z za → fillV place z (grabs tk ρ l).1 = some cs →
    ∃ ca g', fillA place za (l.map fun p => (p.1, evalE ρA p.2)) = some ca ∧ g'.μ = g.μ ∧ g'.C = g.C ∧ SR g' Pr σ H ∧ ER g' H Pr (grabs tk ρ l).2 ρA ∧ VAs g' cs ca ∧ OwnC g' H Pr .part cs ca
  | [], g, ρ, z, za, cs, hE, hS, hz, ho, h => by
    simp only [grabs, fillV, Option.some.injEq] at h
    subst h
    exact ⟨za, g, rfl, rfl, rfl, hS, hE, hz, ho⟩
  | (i, x) :: l, g, ρ, z, za, cs, hE, hS, hz, ho, h => by
    simp only [grabs, fillV] at h
    simp only [List.map_cons, fillA]
    cases hpl : place i with
    | none => rw [hpl] at h; cases h
    | some q =>
      obtain ⟨off, size⟩ := q
      rw [hpl] at h
      simp only at h ⊢
      split at h
      · rename_i hc
        obtain ⟨hc1, hc2, hc3⟩ := hc
        obtain ⟨g1, k⟩ := grab_sim hE hS tk x
        have hv := k.va.cells hc1
        have hcl := hv.length
        have hzl := hz.length
        rw [if_pos ⟨k.va.isVal hc1, by omega, by omega⟩]
        let f : Pos → Pos := fun p => match p with | .val j => .part (off + j) | p => p
        have hfs : ∀ p : Pos, p.still → f p = p := fun p hp => by cases p <;> first | rfl | exact hp.elim
        have hl2 : g1.Le ⟨g1.μ, g1.C, reU g1.U f⟩ := ⟨fun _ _ h => h, fun _ _ h => h⟩
        have hz1 := (hz.mono k.le)
        obtain ⟨ca, g', q1, q2, q3, q4, q5, q6, q7⟩ := fill_own place l ⟨g1.μ, g1.C, reU g1.U f⟩ (grab tk ρ x).2 (splice z off (grab tk ρ x).1.cells) (splice za off (evalE ρA x).cells) cs
          (k.er.keep hl2 (fun b p hb hp hu => ⟨by
            show reU g1.U f b = _
            rw [reU_some hu, hfs p hp], Keep.refl H b⟩))
          (k.sr.own rfl rfl (fun b o j hu => by
            show reU g1.U f b = _
            rw [reU_some hu]))
          ((hz1.splice hv off).mono hl2) (by
            intro j y w h1 h2
            rw [getElem?_splice _ _ _ _ (by omega)] at h1
            rw [getElem?_splice _ _ _ _ (by omega)] at h2
            rw [hcl] at h2
            by_cases hin : off ≤ j ∧ j < off + (grab tk ρ x).1.cells.length
            · rw [if_pos hin] at h1 h2
              have hyz : VA g1 y w := by
                obtain ⟨z', p1, p2⟩ := hv.get _ y h1
                rw [h2] at p1; simp only [Option.some.injEq] at p1; subst p1; exact p2
              exact (k.own (j - off) y w h1 h2).keep hyz (fun c hc hu => ⟨by
                show reU g1.U f c = _
                rw [reU_some hu]
                simp only [f]
                rw [show off + (j - off) = j by omega], Keep.refl H c⟩)
            · rw [if_neg hin] at h1 h2
              have hyz : VA g y w := by
                obtain ⟨z', p1, p2⟩ := hz.get _ y h1
                rw [h2] at p1; simp only [Option.some.injEq] at p1; subst p1; exact p2
              exact (ho j y w h1 h2).keep hyz (fun c hc hu => ⟨by
                show reU g1.U f c = _
                rw [reU_some (k.U c _ (fun _ e => by cases e) (fun _ _ e => by cases e) hu)], Keep.refl H c⟩)) h
        exact ⟨ca, g', q1, q2.trans k.μ, q3.trans k.C, q4, q5, q6, q7⟩
      · cases h

theorem build_fin {g' : Gh} {cs : List V} {ca : List AV} {ρ1 : VEnv} (hm : g'.μ = g.μ) (hC : g'.C = g.C) (hS : SR g' Pr σ H) (hE : ER g' H Pr ρ1 ρA) (hv : VAs g' cs ca) (ho : OwnC g' H Pr .part cs ca) :
    ∃ g2, g.Le g2 ∧ SR g2 Pr σ H ∧ ER g2 H Pr ρ1 ρA ∧ VA g2 (.agg cs) (.agg ca) ∧ OwnV g2 H Pr .val (.agg cs) (.agg ca) := by
  let f : Pos → Pos := fun p => match p with | .part j => .val j | p => p
  have hfs : ∀ p : Pos, p.still → f p = p := fun p hp => by cases p <;> first | rfl | exact hp.elim
  have hl2 : g'.Le ⟨g'.μ, g'.C, reU g'.U f⟩ := ⟨fun _ _ h => h, fun _ _ h => h⟩
  refine ⟨⟨g'.μ, g'.C, reU g'.U f⟩, ⟨fun o b e => ?_, fun b vs e => ?_⟩, hS.own rfl rfl (fun b o j hu => by
    show reU g'.U f b = _
    rw [reU_some hu]), hE.keep hl2 (fun b p hb hp hu => ⟨by
    show reU g'.U f b = _
    rw [reU_some hu, hfs p hp], Keep.refl H b⟩), .agg _ _ (hv.mono hl2), ho.keep hv (fun j b _ hu => ⟨by
    show reU g'.U f b = _
    rw [reU_some hu], Keep.refl H b⟩)⟩
  · show blkO g'.μ o = _
    rw [hm]; exact e
  · show g'.C b = _
    rw [hC]; exact e

theorem build_sim {tk : Bool} {c : Cx} (hE : ER g H Pr ρ ρA) (hS : SR g Pr σ H) {t : TypeId} {parts : Array (Nat × Operand)} {v : V} {ρ1 : VEnv} {σ1 : St} (h : vOp c tk ρ (.build t parts) σ = some (v, ρ1, σ1)) : OpSim c.P call g Pr σ c.fl H ρA (.build t parts) v ρ1 σ1 := by
  simp only [vOp] at h
  cases hz : tZeroV c.P t with
  | none => rw [hz] at h; cases h
  | some z =>
    rw [hz] at h
    unfold tZeroV at hz
    simp only [Option.map_eq_some_iff] at hz
    obtain ⟨u, hu, rfl⟩ := hz
    have hza : tZero c.P t = some (u.cells.toList.map ofVal) := by unfold tZero; rw [hu]; rfl
    split at h
    · rename_i z' fs e hud
      cases e
      split at h
      · rename_i ps hps
        simp only [Option.map_eq_some_iff, Prod.mk.injEq] at h
        obtain ⟨cs, hf, rfl, rfl, rfl⟩ := h
        obtain ⟨ca, g', q1, q2, q3, q4, q5, q6, q7⟩ := fill_own (σ := σ) (ρA := ρA) (H := H) (Pr := Pr) _ parts.toList g ρ _ _ cs hE hS (ofVals_VA _) (OwnC.vals _) hf
        obtain ⟨g2, k1, k2, k3, k4, k5⟩ := build_fin q2 q3 q4 q5 q6 q7
        refine ⟨.agg ca, H, g2, ?_, k1, k2, k3, k4, k5, Fr.refl _ _ _ _ _⟩
        simp only [evOpE, hza, hud, hps, q1, Option.map_some]
      · cases h
    · rename_i z' n e hz' hud
      cases hz'
      split at h
      · rename_i s hs
        simp only [Option.map_eq_some_iff, Prod.mk.injEq] at h
        obtain ⟨cs, hf, rfl, rfl, rfl⟩ := h
        obtain ⟨ca, g', q1, q2, q3, q4, q5, q6, q7⟩ := fill_own (σ := σ) (ρA := ρA) (H := H) (Pr := Pr) _ parts.toList g ρ _ _ cs hE hS (ofVals_VA _) (OwnC.vals _) hf
        obtain ⟨g2, k1, k2, k3, k4, k5⟩ := build_fin q2 q3 q4 q5 q6 q7
        refine ⟨.agg ca, H, g2, ?_, k1, k2, k3, k4, k5, Fr.refl _ _ _ _ _⟩
        simp only [evOpE, hza, hud, hs, q1, Option.map_some]
      · cases h
    · cases h

/-! ### Maps -/
theorem keyOK_sim {d : TypeDesc} {k : V} {a : AV} (h : VA g k a) (hk : keyOKV d k = true) : keyOK d a = true := by
  unfold keyOKV at hk
  split at hk
  · cases h; rfl
  · cases h; exact hk
  · cases hk
theorem keyEq_sim {d : TypeDesc} {k k' : V} {a a' : AV} (h : VA g k a) (h' : VA g k' a') (hk : keyOKV d k = true) (hk' : keyOKV d k' = true) : keyEq a a' = keyEqV k k' := by
  unfold keyOKV at hk
  split at hk
  · cases h
    unfold keyOKV at hk'
    split at hk'
    · cases h'; rfl
    · cases h'; rfl
    · cases hk'
  · cases h
    unfold keyOKV at hk'
    split at hk'
    · cases h'; rfl
    · cases h'; rfl
    · cases hk'
  · cases hk
theorem find_sim {d : TypeDesc} {k : V} {a : AV} (h : VA g k a) (hk : keyOKV d k = true) : ∀ (es : List (V × V)) (aes : List (AV × AV)) (n : Nat), aes.length = es.length → (∀ (i : Nat) (k v : V), es[i]? = some (k, v) → ∃ ka va, aes[i]? = some (ka, va) ∧ VA g k ka ∧ VA g v va ∧ v.strip = v) → es.all (fun e => keyOKV d e.1) = true →
    (findV k es n = none ∧ findA a aes n = none) ∨ ∃ i v va, findV k es n = some (i, v) ∧ findA a aes n = some (i, va) ∧ VA g v va ∧ v.strip = v ∧ n ≤ i ∧ i < n + es.length
  | [], [], n, _, _, _ => .inl ⟨rfl, rfl⟩
  | [], _ :: _, _, hl, _, _ => by simp at hl
  | _ :: _, [], _, hl, _, _ => by simp at hl
  | (k0, v0) :: es, (a0, va0) :: aes, n, hl, hr, hall => by
    obtain ⟨ka, va, e1, e2, e3, e4⟩ := hr 0 k0 v0 rfl
    simp only [List.getElem?_cons_zero, Option.some.injEq, Prod.mk.injEq] at e1
    obtain ⟨rfl, rfl⟩ := e1
    simp only [List.all_cons, Bool.and_eq_true] at hall
    have hke := keyEq_sim h e2 hk hall.1
    simp only [findV, findA, hke]
    by_cases hq : keyEqV k k0 = true
    · rw [if_pos hq, if_pos hq]
      exact .inr ⟨n, v0, va0, rfl, rfl, e3, e4, Nat.le_refl _, by simp⟩
    · rw [if_neg hq, if_neg hq]
      rcases find_sim h hk es aes (n + 1) (by simpa using hl) (fun i k v hi => hr (i + 1) k v (by simpa using hi)) hall.2 with ⟨q1, q2⟩ | ⟨i, v, va, q1, q2, q3, q4, q5, q6⟩
      · exact .inl ⟨q1, q2⟩
      · exact .inr ⟨i, v, va, q1, q2, q3, q4, by omega, by simp only [List.length_cons]; omega⟩
theorem entries_sim (hS : SR g Pr σ H) {x : V} {a : AV} (hx : VA g x a) {es : List (V × V)} (h : entriesV σ x = some es) : ∃ aes, entriesA H a = some aes ∧ aes.length = es.length ∧ ∀ (i : Nat) (k v : V), es[i]? = some (k, v) → ∃ ka va, aes[i]? = some (ka, va) ∧ VA g k ka ∧ VA g v va ∧ v.strip = v := by
  unfold entriesV at h
  split at h
  · simp only [Option.some.injEq] at h
    subst h
    cases hx
    exact ⟨[], rfl, rfl, fun i k v hi => by simp at hi⟩
  · rename_i o
    split at h
    · rename_i es' hs
      simp only [Option.some.injEq] at h
      subst h
      cases hx with
      | map _ b hb =>
        obtain ⟨aes, e1, e2, e3⟩ := hS.obj o _ b hs hb
        exact ⟨aes, by simp only [entriesA, e1], e2, e3⟩
    · cases h
  · cases h
theorem all_sim {d : TypeDesc} {es : List (V × V)} {aes : List (AV × AV)} (hl : aes.length = es.length) (hr : ∀ (i : Nat) (k v : V), es[i]? = some (k, v) → ∃ ka va, aes[i]? = some (ka, va) ∧ VA g k ka ∧ VA g v va ∧ v.strip = v) (h : es.all (fun e => keyOKV d e.1) = true) : aes.all (fun e => keyOK d e.1) = true := by
  rw [List.all_eq_true]
  intro y hy
  obtain ⟨i, hi⟩ := List.getElem?_of_mem hy
  have hlt : i < es.length := by have := (List.getElem?_eq_some_iff.1 hi).1; omega
  obtain ⟨ka, va, e1, e2, _⟩ := hr i es[i].1 es[i].2 (List.getElem?_eq_getElem hlt)
  rw [hi] at e1
  simp only [Option.some.injEq] at e1
  subst e1
  exact keyOK_sim e2 (List.all_eq_true.1 h _ (List.getElem_mem hlt))
theorem lookup_sim (hE : ER g H Pr ρ ρA) (hS : SR g Pr σ H) {t : TypeId} {x k : Operand} {ok : Bool} {v : V} (h : lookupV P σ t (evalV ρ x) (evalV ρ k) ok = some v) : OpSim P call g Pr σ fl H ρA (.lookup t x k ok) v ρ σ := by
  have hx := evalV_VA hE x
  have hk := evalV_VA hE k
  unfold lookupV at h
  split at h
  · rename_i kt et hu
    split at h
    · rename_i d es z hd hes hz
      split at h
      · rename_i hc
        obtain ⟨hc1, hc2⟩ := hc
        obtain ⟨aes, e1, e2, e3⟩ := entries_sim hS hx hes
        unfold zeroVV at hz
        simp only [Option.map_eq_some_iff] at hz
        obtain ⟨zu, hzu, rfl⟩ := hz
        have hza : zeroA P et = some (ofConst zu) := by unfold zeroA; rw [hzu]; rfl
        have hcond : keyOK d (evalE ρA k) = true ∧ aes.all (fun e => keyOK d e.1) = true := ⟨keyOK_sim hk hc1, all_sim e2 e3 hc2⟩
        have main : ∀ (w : V) (wa : AV), VA g w wa → w.strip = w → (∀ b, lookupA P H t (evalE ρA x) (evalE ρA k) ok = some (if ok then .tuple [wa, .bool b] else wa) → v = (if ok then .tuple [w, .bool b] else w) → OpSim P call g Pr σ fl H ρA (.lookup t x k ok) v ρ σ) := by
          intro w wa hw hws b hl hv
          subst hv
          refine quietS hE hS (a := if ok then .tuple [wa, .bool b] else wa) (by simp only [evOpE, hl, Option.map_some]) ?_ ?_
          · cases ok
            · exact hw
            · exact .tuple _ _ (.cons _ _ _ _ hw (.cons _ _ _ _ (.bool b) .nil))
          · cases ok
            · exact noown_strip1 hws
            · exact OwnV.scalar (fun _ e => by cases e) rfl
        rcases find_sim hk hc1 es aes 0 e2 e3 hc2 with ⟨q1, q2⟩ | ⟨i, w, wa, q1, q2, q3, q4, _⟩
        · rw [q1] at h
          simp only [Option.some.injEq] at h
          refine main _ _ (ofConst_VA zu).strip ?_ false ?_ h.symm
          · cases hq : ofConstV zu with
            | agg l => simp only [V.strip]; congr 1; rw [List.map_map]; congr 1; funext y; exact strip1_idem y
            | _ => rfl
          · simp only [lookupA, hu, hd, e1, hza]
            rw [if_pos hcond, q2]
        · rw [q1] at h
          simp only [Option.some.injEq] at h
          refine main w wa q3 q4 true ?_ h.symm
          simp only [lookupA, hu, hd, e1, hza]
          rw [if_pos hcond, q2]
      · cases h
    · cases h
  · cases h

/-- A map is written. -/
theorem SR.putMap (h : SR g Pr σ H) {o b : Nat} {es es' : List (V × V)} {aes aes' : List (AV × AV)} (hs : σ.get o = some (.amap es)) (hb : g.blk o = some b) (hH : H.get b = some (.amap aes)) (hl' : aes'.length = es'.length)
    (hr : ∀ (i : Nat) (k v : V), es'[i]? = some (k, v) → ∃ ka va, aes'[i]? = some (ka, va) ∧ VA g k ka ∧ VA g v va ∧ v.strip = v) (hfl : fl ≤ o) (hlow : (VObj.amap es').low (max (o + 1) σ.pin)) : SR g Pr (σ.put o (.amap es')) (H.put b (some (.amap aes'))) ∧ (∀ c, g.C c ≠ none → Keep H (H.put b (some (.amap aes'))) c) ∧ Fr g Pr σ fl H (H.put b (some (.amap aes'))) := by
  have halo : Alive σ g o b := ⟨hb, _, hs, fun e => by cases e⟩
  obtain ⟨hcb, hold⟩ := h.sep o b halo
  have hget := AH.get_put H hH (.amap aes')
  have hkin : ∀ j, (H.put b (some (.amap aes'))).kinAt j = H.kinAt j := fun j => AH.kinAt_put _ _ _ _ (fun _ => rfl)
  have hol : ∀ j, (H.put b (some (.amap aes'))).oldAt j = H.oldAt j := fun j => by
    rw [AH.oldAt_put]
    split
    · rename_i e; subst e; rfl
    · rfl
  have hkc : ∀ c, g.C c ≠ none → Keep H (H.put b (some (.amap aes'))) c := fun c hc =>
    ⟨fun x hx => by rw [hget, if_neg (fun e => by subst e; exact hc hcb)]; exact hx, hol c, hkin c, fun hd => hd⟩
  have hoth : ∀ o' b', Alive σ g o' b' → o' ≠ o → (H.put b (some (.amap aes'))).get b' = H.get b' := fun o' b' hal hne => by
    rw [hget, if_neg (h.dist o' o b' b hal halo hne).1]
  have hsg : ∀ j, (σ.put o (.amap es')).get j = if j = o then some (.amap es') else σ.get j := fun j => get_put σ hs _ j
  have ha : ∀ o' b', Alive (σ.put o (.amap es')) g o' b' → Alive σ g o' b' := by
    rintro o' b' ⟨k1, x, k2, k3⟩
    rw [hsg] at k2
    by_cases e : o' = o
    · subst e; rw [hb] at k1; simp only [Option.some.injEq] at k1; subst k1; exact halo
    · rw [if_neg e] at k2; exact ⟨k1, x, k2, k3⟩
  refine ⟨⟨?_, ?_, ?_, h.pr, fun o' b' hal => ?_, fun o1 o2 b1 b2 k1 k2 hne => ?_, fun o' b' j k hc => ?_, fun j hj => ?_, fun j hj => ?_, h.dlow, fun o' y hy => by
    rw [hsg] at hy
    by_cases e : o' = o
    · rw [if_pos e] at hy; simp only [Option.some.injEq] at hy; subst hy; subst e; exact hlow
    · rw [if_neg e] at hy; exact h.pin o' y hy, h.blt, h.tlow⟩, hkc, ⟨fun c hp => hkc c (h.pr c hp), fun o' b' h1 hal => hoth o' b' hal (by omega), Nat.le_refl _, fun _ _ h => h⟩⟩
  · show g.μ.length = (putO σ.objs o _).length
    rw [length_putO]; exact h.len
  · intro o' x b' k1 k2
    rw [hsg] at k1
    by_cases e : o' = o
    · subst e
      rw [if_pos rfl] at k1
      rw [hb] at k2
      simp only [Option.some.injEq] at k1 k2
      subst k1; subst k2
      exact ⟨aes', by rw [hget, if_pos rfl], hl', hr⟩
    · rw [if_neg e] at k1
      by_cases hd : x = .dead
      · subst hd; trivial
      · exact (h.obj o' x b' k1 k2).keep (Gh.Le.refl g) (fun c j hc hu => ⟨hu, hkc c hc⟩) (hoth o' b' ⟨k2, x, k1, hd⟩ e) (fun _ _ h => h)
  · intro c ws e
    obtain ⟨own, e1⟩ := h.fro c ws e
    exact ⟨own, (hkc c (by rw [e]; simp)).get _ e1⟩
  · rw [hol]; exact h.sep o' b' (ha o' b' hal)
  · rw [hkin, hkin]; exact h.dist o1 o2 b1 b2 (ha _ _ k1) (ha _ _ k2) hne
  · rw [hkin, hkin]; exact h.kin o' b' j (ha _ _ k) hc
  · rw [hkin]
    show _ < H.next
    refine h.kinlt j (fun e => hj ?_)
    rw [hget]
    by_cases e2 : j = b
    · subst e2; rw [hH] at e; cases e
    · rw [if_neg e2, e]
  · have hj' : H.next ≤ j := hj
    rw [hget, if_neg (by have := h.alt halo; omega)]
    exact h.low j hj'

theorem strip_strip (v : V) : v.strip.strip = v.strip := by
  cases v with
  | agg l => simp only [V.strip]; congr 1; rw [List.map_map]; congr 1; funext y; exact strip1_idem y
  | _ => rfl
theorem update_sim (hE : ER g H Pr ρ ρA) (hS : SR g Pr σ H) {t : TypeId} {x k y : Operand} {σ1 : St} (h : updateV P fl σ t (evalV ρ x) (evalV ρ k) (evalC ρ y) = some σ1) : OpSim P call g Pr σ fl H ρA (.mapUpdate t x k y) .undef ρ σ1 := by
  have hx := evalV_VA hE x
  have hk := evalV_VA hE k
  have hy := evalC_VA hE y
  unfold updateV at h
  split at h
  · rename_i kt et o hu hxe
    rw [hxe] at hx
    generalize hq : evalE ρA x = xa at hx
    cases hx with
    | map _ b hb =>
    split at h
    · rename_i d es hd hs
      split at h
      · rename_i hc
        obtain ⟨hc1, hc2, hc3, hc4⟩ := hc
        obtain ⟨aes, e1, e2, e3⟩ := hS.obj o _ b hs hb
        have hcond : keyOK d (evalE ρA k) = true ∧ aes.all (fun e => keyOK d e.1) = true := ⟨keyOK_sim hk hc1, all_sim e2 e3 hc2⟩
        have hpin : (VObj.amap es).low (max (o + 1) σ.pin) := hS.pin o _ hs
        have hklow : ∀ n, (evalV ρ k).low n = true := by
          intro n
          generalize evalV ρ k = kv at hc1
          unfold keyOKV at hc1
          split at hc1 <;> first | rfl | cases hc1
        have hvlow : (evalC ρ y).low (max (o + 1) σ.pin) = true := V.low_mono (Nat.le_max_left _ _) _ hc4
        rcases find_sim hk hc1 es aes 0 e2 e3 hc2 with ⟨q1, q2⟩ | ⟨i, w, wa, q1, q2, q3, q4, q5, q6⟩
        · rw [q1] at h
          simp only [Option.some.injEq] at h
          subst h
          obtain ⟨k1, k2, k3⟩ := hS.putMap (fl := fl) (es' := es ++ [(evalV ρ k, evalC ρ y)]) (aes' := aes ++ [(evalE ρA k, evalE ρA y)]) hs hb e1 (by simp [e2]) (fun i k' v' hi => by
            rw [List.getElem?_append] at hi ⊢
            rw [e2]
            split at hi
            · rename_i hlt; rw [if_pos hlt]; exact e3 i k' v' hi
            · rename_i hlt
              rw [if_neg hlt]
              cases hj : i - es.length with
              | zero =>
                rw [hj] at hi
                simp only [List.getElem?_cons_zero, Option.some.injEq, Prod.mk.injEq] at hi
                obtain ⟨rfl, rfl⟩ := hi
                exact ⟨_, _, rfl, hk, hy, strip_strip _⟩
              | succ j => rw [hj] at hi; simp at hi) hc3 (fun e he => by
            rcases List.mem_append.1 he with he | he
            · exact hpin e he
            · rw [List.mem_singleton.1 he]; exact ⟨hklow _, hvlow⟩)
          refine ⟨.undef, _, g, ?_, Gh.Le.refl g, k1, hE.keep (Gh.Le.refl g) (fun c p hc _ hu => ⟨hu, k2 c hc⟩), .undef _, OwnV.scalar (fun _ e => by cases e) rfl, k3⟩
          simp only [evOpE, updateA, hu, hq, hd, e1]
          rw [if_pos hcond, q2]
          rfl
        · rw [q1] at h
          simp only [Option.some.injEq] at h
          subst h
          obtain ⟨k1, k2, k3⟩ := hS.putMap (fl := fl) (es' := es.set i (evalV ρ k, evalC ρ y)) (aes' := aes.set i (evalE ρA k, evalE ρA y)) hs hb e1 (by simp [e2]) (fun j k' v' hi => by
            rw [List.getElem?_set] at hi ⊢
            by_cases hij : i = j
            · rw [if_pos hij] at hi ⊢
              split at hi
              · rename_i hlt
                rw [if_pos (by omega)]
                simp only [Option.some.injEq, Prod.mk.injEq] at hi
                obtain ⟨rfl, rfl⟩ := hi
                exact ⟨_, _, rfl, hk, hy, strip_strip _⟩
              · cases hi
            · rw [if_neg hij] at hi ⊢; exact e3 j k' v' hi) hc3 (fun e he => by
            rcases List.mem_or_eq_of_mem_set he with he | he
            · exact hpin e he
            · rw [he]; exact ⟨hklow _, hvlow⟩)
          refine ⟨.undef, _, g, ?_, Gh.Le.refl g, k1, hE.keep (Gh.Le.refl g) (fun c p hc _ hu => ⟨hu, k2 c hc⟩), .undef _, OwnV.scalar (fun _ e => by cases e) rfl, k3⟩
          simp only [evOpE, updateA, hu, hq, hd, e1]
          rw [if_pos hcond, q2]
          rfl
      · cases h
    · cases h
  · cases h
end
end Go.Vw
end
