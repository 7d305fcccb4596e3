import Derived.Test.YtdjmfiofdceodaaW4
import Derived.Carry
import Derived.HandedShaped
import Derived.DataShut
import Derived.Test.YtdjmfiofdceodaaRows
set_option linter.unusedVariables false
set_option linter.unusedSimpArgs false
set_option linter.unusedSectionVars false
section
/- A builder's methods, of the second evaluator. -/
namespace Go.Vw.Wm
open Go Go.RowKit Go.Abs Go.Vw Lx Tr
section
variable {P : Program} {K : Knobs} {ext : Nat → Option (List AV → AH → Option (AV × AH))}

/-- What is asked of the types of a builder's parts: of its bytes, of the slice of them, of texts. -/
structure BldT (P : Program) (uB tS tStr : TypeId) : Prop where
  agg : tAgg P tS = some false
  elem : tElem P tS = some uB
  size : tSize P tS = some 1
  str : P.underlying tStr = some .string
  usize : tSize P uB = some 1
  ubytes : tBytes P uB = some 1
  uzero : (tZero P uB).map (·.length) = some 1

theorem appendT_tag {H H' : AH} {e : TypeId} {s a : AV} {t : List UInt8} (h : appendT P H e s (.str t) = some (a, H')) (hs : s = .nils ∨ ∃ b len, s = .slice b 0 len none 1 ∧ H.ty.get b = some (e, none)) (hlow : H.ty.get H.next = none) (hsz : tSize P e = some 1) :
    a = .nils ∨ ∃ b len, a = .slice b 0 len none 1 ∧ H'.ty.get b = some (e, none) := by
  unfold appendT at h
  simp only [Option.map_eq_some_iff, Prod.mk.injEq] at h
  obtain ⟨⟨a', H1⟩, h1, rfl, rfl⟩ := h
  have new : ∀ {H2 : AH}, H2.ty = H.ty → (H2.tag H.next (e, none)).ty.get H.next = some (e, none) := by
    intro H2 h2
    rw [AH.tag_ty, if_pos ⟨by rw [h2, hlow]; rfl, rfl⟩]
  unfold appendA at h1
  split at h1
  · rename_i size bytes z n nw esz q1 q2 q3 q4
    rw [hsz] at q1
    simp only [Option.some.injEq] at q1
    subst q1
    split at h1
    · rcases hs with rfl | ⟨b, len, rfl, hty⟩
      · simp only at h1
        split at h1
        · simp only [Option.some.injEq, Prod.mk.injEq] at h1
          obtain ⟨rfl, rfl⟩ := h1
          exact .inl rfl
        · split at h1
          · simp only [Option.some.injEq, Prod.mk.injEq] at h1
            obtain ⟨rfl, rfl⟩ := h1
            refine .inr ⟨_, _, rfl, ?_⟩
            unfold tagS
            simp only
            rw [if_pos ⟨trivial, by show H.next + 1 ≠ H.next; omega⟩]
            exact new rfl
          · cases h1
      · simp only at h1
        split at h1
        · simp only [Option.some.injEq, Prod.mk.injEq] at h1
          obtain ⟨rfl, rfl⟩ := h1
          exact .inr ⟨_, _, rfl, by rw [tagS_same]; exact hty⟩
        · rw [if_neg (by simp)] at h1
          split at h1
          · split at h1
            · cases h1
            · split at h1
              · rename_i vs hg
                simp only [Option.some.injEq, Prod.mk.injEq] at h1
                obtain ⟨rfl, rfl⟩ := h1
                refine .inr ⟨_, _, rfl, ?_⟩
                have hnx : ∀ c : AV, ∀ x y, (if (0 + len * 1 = vs.length) then H.sup b x y else (H.drop b).add y).next ≠ H.next := by
                  intro c x y
                  split
                  · show H.next + 1 ≠ H.next; omega
                  · show H.next + 1 ≠ H.next; omega
                unfold tagS
                simp only
                rw [if_pos ⟨trivial, hnx .undef _ _⟩, if_pos ⟨trivial, hty⟩]
                exact new (by split <;> rfl)
              · cases h1
          · cases h1
    · cases h1
  · cases h1

theorem vOp_append {c : Cx} {tk : Bool} {ρ : VEnv} {σ : St} {s x : Operand} {tS tStr e : TypeId} (he : tElem c.P tS = some e) (hu : c.P.underlying tStr = some .string) :
    vOp c tk ρ (.call { callee := .builtin .append, args := #[s, x], argTypes := #[tS, tStr] }) σ = (appendV c.P c.wm c.fl σ e (grab true ρ s).1 (evalV (grab true ρ s).2 x)).map fun r => (r.1, (grab true ρ s).2, r.2) := by
  simp [vOp, he, hu]
theorem evOpE_append {call : CallF} {ρ : Env} {H : AH} {s x : Operand} {tS tStr e : TypeId} (he : tElem P tS = some e) (hu : P.underlying tStr = some .string) :
    evOpE P call (evalE ρ) (.call { callee := .builtin .append, args := #[s, x], argTypes := #[tS, tStr] }) H = appendT P H e (evalE ρ s) (evalE ρ x) := by
  simp [evOpE, builtinA, he, hu]
theorem X_WriteString {f tB uB tS tStr : Nat} (hT : BldT P uB tS tStr) (hq : K.quiet f = false) (hx : ext f = some (eWriteString P tB uB)) : S_WriteString P K (XS P K ext) f tB uB := by
  intro fl σ b s t hfl hp hb hlen
  refine of_sim (fun g Pr H avs hS hva _ => ?_)
  rw [hq]
  simp only [Bool.false_eq_true, if_false]
  cases hva with
  | cons _ a0 _ _ h1 h2 =>
    cases h2 with
    | cons _ a1 _ _ h3 h4 =>
      cases h4; cases h3
      cases h1 with
      | ptr _ _ bb hbb =>
        obtain ⟨ad, had, ⟨cs, e1, e2, e3, e4⟩, e5, e6⟩ := hS.obj b _ bb hb hbb
        have hlow : ∀ x : V, x = .nilp ∨ x = .ptr b 0 → ∀ w : List UInt8, V.lows (max (b + 1) σ.pin) [x, bytesV w] = true := by
          intro x hx w
          simp only [V.lows, Bool.and_eq_true, bytes_low, and_true]
          rcases hx with rfl | rfl
          · rfl
          · simp only [V.low, decide_eq_true_eq]; omega
        obtain ⟨aad, asl, rfl, v0, v1⟩ : ∃ aad asl, cs = [aad, asl] ∧ VA g ad aad ∧ VA g (bytesV s) asl := by
          cases e2 with
          | cons _ x _ _ k1 k2 =>
            cases k2 with
            | cons _ y _ _ k3 k4 => cases k4; exact ⟨x, y, rfl, k1, k3⟩
        have S0 : SR g Pr (σ.put b (.cells [ad, bytesV s])) H := hS.swap hb (fun e => by cases e) hbb ⟨_, e1, e2, e3, e4⟩ (hlow ad had s)
        -- copyCheck
        obtain ⟨H1, c1, c2, S1, F1⟩ : ∃ H1, eCopy tB H bb = some H1 ∧ (H1.get bb = some (.cells [.ptr bb 0, asl] true) ∧ H1.ty = H.ty) ∧ SR g Pr (σ.put b (.cells [.ptr b 0, bytesV s])) H1 ∧ Fr g Pr σ fl H H1 := by
          rcases had with rfl | rfl
          · cases v0
            have halo : Alive σ g b bb := ⟨hbb, _, hb, fun e => by cases e⟩
            obtain ⟨k1, _, k3, k4⟩ := S0.write (g' := g) (o := b) (b := bb) (vs := [.nilp, bytesV s]) (vs' := [.ptr b 0, bytesV s]) (as' := [.ptr bb 0, asl]) (by rw [get_put σ hb, if_pos rfl]) hbb e1 rfl rfl (fun _ _ _ _ _ h => h) (.cons _ _ _ _ (.ptr _ _ _ hbb) (.cons _ _ _ _ v1 .nil)) rfl (by
              intro j v a hv ha
              cases j with
              | zero =>
                simp only [List.getElem?_cons_zero, Option.some.injEq] at hv ha
                subst hv
                intro els e; cases e
              | succ j =>
                have := e4 (j + 1) v a (by simpa using hv) (by simpa using ha)
                refine this.keep ?_ (fun c hc hu => ⟨hu, ?_⟩)
                · cases j with
                  | zero =>
                    simp only [Nat.zero_add, List.getElem?_cons_succ, List.getElem?_cons_zero, Option.some.injEq] at hv ha
                    subst hv; subst ha
                    exact v1
                  | succ j => simp at hv
                · obtain ⟨q1, q2⟩ := hS.sep b bb halo
                  have hkin := hS.kin b bb c halo hc
                  have hcb : c ≠ bb := fun e => by subst e; exact hc q1
                  refine ⟨fun x hx => ?_, AH.oldAt_wput _ _ _ _, AH.kinAt_wput _ _ _ _, fun hd => ?_⟩
                  · rw [AH.get_wput H e1 q2, if_neg hcb, if_neg (fun k => hkin k.2)]; exact hx
                  · show ((H.put bb _).kill bb).dead.get _ = none
                    rw [AH.dead_kill, AH.kinAt_put _ _ _ _ (fun _ => rfl), if_neg hkin]
                    exact hd) σ.pin (Nat.le_refl _) (hlow (.ptr b 0) (.inr rfl) s)
            have hob := (hS.sep b bb halo).2
            refine ⟨H.wput bb (.cells [.ptr bb 0, asl] true), ?_, ⟨?_, rfl⟩, ?_, ⟨fun c hc => k3 c (hS.pr c hc), fun o' b' ho hal => ?_, Nat.le_refl _, fun _ _ h => h⟩⟩
            · unfold eCopy; rw [e1]; simp only; rw [if_pos e5]
            · rw [AH.get_wput H e1 hob, if_pos rfl]
            · have : (⟨putO (σ.put b (.cells [.nilp, bytesV s])).objs b (.cells [.ptr b 0, bytesV s]), σ.pin⟩ : St) = σ.put b (.cells [.ptr b 0, bytesV s]) := put_put σ b _ _
              rw [this] at k1
              exact k1
            · obtain ⟨d1, d2⟩ := hS.dist o' b b' bb hal halo (by omega)
              rw [AH.get_wput H e1 hob, if_neg d1, if_neg (fun k => d2 k.2)]
          · cases v0 with
            | ptr _ _ b2 hb2 =>
              rw [hbb] at hb2
              simp only [Option.some.injEq] at hb2
              subst hb2
              exact ⟨H, by unfold eCopy; rw [e1]; simp only; rw [if_pos e5]; simp, ⟨e1, rfl⟩, S0, Fr.refl _ _ _ _ _⟩
        obtain ⟨c2, c3⟩ := c2
        -- the three operations
        let ρ0 : VEnv := fun t' => if t' = 0 then .ptr b 1 else if t' = 1 then .str t else .undef
        let ρA : Env := fun t' => if t' = 0 then .ptr bb 1 else if t' = 1 then .str t else .undef
        have E1 : ER g H1 Pr ρ0 ρA := by
          intro t'
          by_cases e : t' = 0
          · subst e; exact ⟨.ptr _ _ _ hbb, OwnV.ptr⟩
          · by_cases e2 : t' = 1
            · subst e2; exact ⟨.str _, noown_strip1 rfl⟩
            · have h0 : ρ0 t' = .undef := by show (if t' = 0 then _ else _) = _; rw [if_neg e, if_neg e2]
              rw [h0]
              exact ⟨.undef _, OwnV.scalar (fun _ e => by cases e) rfl⟩
        have hg1 : (σ.put b (.cells [.ptr b 0, bytesV s])).get b = some (.cells [.ptr b 0, bytesV s]) := by rw [get_put σ hb, if_pos rfl]
        have opL : vOp ⟨P, fun _ => false, fl⟩ true ρ0 (.load tS (.tmp 0)) (σ.put b (.cells [.ptr b 0, bytesV s])) = some (bytesV s, ρ0, (σ.put b (.cells [.ptr b 0, bytesV s])).put b (.cells [.ptr b 0, (bytesV s).strip1])) := by
          have hav : asVal P tS [.ptr b 0, bytesV s] 1 = some (bytesV s) := by
            unfold asVal; rw [hT.agg]; rfl
          have : evalV ρ0 (.tmp 0) = .ptr b 1 := rfl
          simp only [vOp, this, hg1, hav, if_true, hfl]
          rfl
        obtain ⟨a2, H2, g2, o1, o2, o3, o4, o5, o6, o7⟩ := vOp_sim (call := lim P ext) E1 S1 opL
        have hH2 : H2 = H1 ∧ a2 = asl := by
          have hA : evalE ρA (.tmp 0) = .ptr bb 1 := rfl
          simp only [evOpE, hA, Option.map_eq_some_iff, Prod.mk.injEq] at o1
          obtain ⟨x, x1, rfl, rfl⟩ := o1
          refine ⟨rfl, ?_⟩
          unfold loadA at x1
          rw [hT.agg] at x1
          simp only [rd, c2] at x1
          simpa using x1.symm
        obtain ⟨rfl, rfl⟩ := hH2
        obtain ⟨g3, m1, m2, m3, m4⟩ := o4.set o3 o5 o6 (some 2)
        rw [put_put] at m3
        have opA : vOp ⟨P, fun _ => false, fl⟩ false (updVD ρ0 (some 2) (bytesV s)) (.call { callee := .builtin .append, args := #[.tmp 2, .tmp 1], argTypes := #[tS, tStr] }) (σ.put b (.cells [.ptr b 0, (bytesV s).strip1])) = some (bytesV (s ++ t), updV (updVD ρ0 (some 2) (bytesV s)) 2 (bytesV s).strip, σ.put b (.cells [.ptr b 0, (bytesV s).strip1])) := by
          have h2 : (updVD ρ0 (some 2) (bytesV s)) 2 = bytesV s := rfl
          have h1 : (updV (updVD ρ0 (some 2) (bytesV s)) 2 (bytesV s).strip) 1 = .str t := rfl
          have hz : ∃ z, tZero P uB = some z ∧ z.length = 1 := by
            have := hT.uzero
            cases hq : tZero P uB with
            | none => rw [hq] at this; cases this
            | some z => rw [hq] at this; exact ⟨z, rfl, by simpa using this⟩
          obtain ⟨z, hz1, hz2⟩ := hz
          have happ : appendV P (fun _ => false) fl (σ.put b (.cells [.ptr b 0, (bytesV s).strip1])) uB (bytesV s) (.str t) = some (bytesV (s ++ t), σ.put b (.cells [.ptr b 0, (bytesV s).strip1])) := by
            unfold appendV
            simp only [hT.usize, hT.ubytes, hz1, hz2, srcV, if_true, bytesV, Nat.lt_one_iff, true_and]
            by_cases ht : t = []
            · subst ht; simp
            · have hf : fits 1 ((s.map fun c => [byteCellV c]).length + (t.map fun c => [byteCellV c]).length) := by
                simp only [List.length_map]
                unfold fits; omega
              have hall : (s.map fun c => [byteCellV c]).all (fun e => decide (e.length = 1)) = true := by
                rw [List.all_eq_true]; intro x hx; obtain ⟨c, _, rfl⟩ := List.mem_map.1 hx; rfl
              rw [if_neg (by simpa using ht), if_pos ⟨hf, hall⟩]
              simp
          rw [vOp_append hT.elem hT.str]
          show (appendV P (fun _ => false) fl (σ.put b (.cells [.ptr b 0, (bytesV s).strip1])) uB (bytesV s) (.str t)).map _ = _
          rw [happ]
          rfl
        obtain ⟨a4, H4, g4, p1, p2, p3, p4, p5, p6, p7⟩ := vOp_sim (call := lim P ext) m4 m3 opA
        rw [evOpE_append hT.elem hT.str] at p1
        have happ : appendT P H2 uB a2 (.str t) = some (a4, H4) := p1
        have htag := appendT_tag happ (by
          have := e6 _ e1 aad
          unfold bytesV at v1
          generalize (s.map fun c => [byteCellV c]) = w at v1
          cases v1 with
          | nils => exact .inl rfl
          | vec _ _ b' off cap esz vs =>
            obtain ⟨q1, q2, q3, q4, q5⟩ := this b' off _ cap esz rfl
            subst q1; subst q2; subst q3
            exact .inr ⟨_, _, rfl, by rw [c3]; exact q5⟩) (S1.tlow _ (Nat.le_refl _)) hT.usize
        obtain ⟨g5, n1, n2, n3, n4⟩ := p4.set p3 p5 p6 (some 3)
        have hg5 : (σ.put b (.cells [.ptr b 0, (bytesV s).strip1])).get b = some (.cells [.ptr b 0, (bytesV s).strip1]) := by rw [get_put σ hb, if_pos rfl]
        let ρ3 : VEnv := updVD (updV (updVD ρ0 (some 2) (bytesV s)) 2 (bytesV s).strip) (some 3) (bytesV (s ++ t))
        have opS : vOp ⟨P, fun _ => false, fl⟩ true ρ3 (.store tS (.tmp 0) (.tmp 3)) (σ.put b (.cells [.ptr b 0, (bytesV s).strip1])) = some (.undef, updV ρ3 3 (bytesV (s ++ t)).strip, σ.put b (.cells [.ptr b 0, bytesV (s ++ t)])) := by
          have h0 : evalV ρ3 (.tmp 0) = .ptr b 1 := rfl
          have h3 : grab true ρ3 (.tmp 3) = (bytesV (s ++ t), updV ρ3 3 (bytesV (s ++ t)).strip) := rfl
          simp only [vOp, h0, hg5, h3]
          rw [if_pos ⟨rfl, hT.size, by simp [bytesV, V.cells], hfl⟩]
          have hpin : (bytesV (s ++ t)).pins b (σ.put b (.cells [.ptr b 0, (bytesV s).strip1])).size (σ.put b (.cells [.ptr b 0, (bytesV s).strip1])).pin = σ.pin := by
            unfold V.pins
            rw [if_pos (bytes_low _ _)]
            rfl
          rw [hpin]
          have : (⟨putO (σ.put b (.cells [.ptr b 0, (bytesV s).strip1])).objs b (.cells (splice [.ptr b 0, (bytesV s).strip1] 1 (bytesV (s ++ t)).cells)), σ.pin⟩ : St) = σ.put b (.cells [.ptr b 0, bytesV (s ++ t)]) := put_put σ b _ _
          rw [this]
        obtain ⟨a6, H6, g6, s1, s2, s3, s4, s5, s6, s7⟩ := vOp_sim (call := lim P ext) n4 n3 opS
        have l1 : g.Le g3 := o2.trans (SR.like o3 m1 m2)
        have l2 : g.Le g5 := l1.trans (p2.trans (SR.like p3 n1 n2))
        have l3 : g.Le g6 := l2.trans s2
        obtain ⟨cs4, f1, f2, _, _⟩ := n3.obj b _ bb hg5 (l2.blk _ _ hbb)
        obtain ⟨x0, x1, rfl⟩ : ∃ x0 x1, cs4 = [x0, x1] := by
          cases f2 with
          | cons _ x _ _ k1 k2 =>
            cases k2 with
            | cons _ y _ _ k3 k4 => cases k4; exact ⟨x, y, rfl⟩
        have hsl : isSl a4 = true ∧ a4.cells = [a4] := by
          rcases htag with rfl | ⟨_, _, rfl, _⟩ <;> exact ⟨rfl, rfl⟩
        have hH6 : H6 = H4.wput bb (.cells [x0, a4] true) := by
          have hA0 : evalE (updD (updD ρA (some 2) a2) (some 3) a4) (.tmp 0) = .ptr bb 1 := rfl
          have hA3 : evalE (updD (updD ρA (some 2) a2) (some 3) a4) (.tmp 3) = a4 := rfl
          simp only [evOpE, hA0, hA3, Option.map_eq_some_iff, Prod.mk.injEq] at s1
          obtain ⟨H7, h7, _, rfl⟩ := s1
          unfold storeA at h7
          split at h7
          · unfold wr at h7
            rw [f1] at h7
            simp only [hsl.2] at h7
            split at h7
            · simp only [Option.some.injEq] at h7
              exact h7.symm
            · cases h7
          · cases h7
        have hext : eWriteString P tB uB [.ptr bb 0, .str t] H = some (.tuple [.int .i64 t.length, .nili], H6) := by
          unfold eWriteString
          simp only [c1, c2, happ, f1, hsl.1, if_true, hH6]
        have hput : ∀ x : VObj, ∀ o, o < fl → (σ.put b x).get o = σ.get o := fun x o ho => get_put_ne σ x (by omega)
        have hfr : Fr g Pr σ fl H H6 := by
          refine ⟨fun c hc => (F1.pr c hc).trans ((p7.pr c hc).trans (s7.pr c hc)), fun o bo ho hal => ?_, Nat.le_trans F1.next (Nat.le_trans p7.next s7.next), fun c u k => s7.ty c u (p7.ty c u (F1.ty c u k))⟩
          have al : ∀ (x : VObj) (g' : Gh), g.Le g' → Alive (σ.put b x) g' o bo := fun x g' hl => ⟨hl.blk _ _ hal.1, by obtain ⟨y, h1, h2⟩ := hal.2; exact ⟨y, by rw [hput x o ho]; exact h1, h2⟩⟩
          rw [s7.fl o bo ho (al _ _ l2), p7.fl o bo ho (al _ _ l1), F1.fl o bo ho hal]
        have hg6 : (σ.put b (.cells [.ptr b 0, bytesV (s ++ t)])).get b = some (.cells [.ptr b 0, bytesV (s ++ t)]) := by rw [get_put σ hb, if_pos rfl]
        have hbb6 := l3.blk _ _ hbb
        have hobj := s3.obj b _ bb hg6 hbb6
        have hty : H6.ty.get bb = some (tB, some 2) := s7.ty _ _ (p7.ty _ _ (by rw [c3]; exact e5))
        have hgb6 : H6.get bb = some (.cells [x0, a4] true) := by
          rw [hH6, AH.get_wput H4 f1 (n3.sep b bb ⟨l2.blk _ _ hbb, _, hg5, fun e => by cases e⟩).2, if_pos rfl]
        have hbld : ObjR g6 H6 Pr b bb (.bld tB uB (s ++ t)) := by
          refine ⟨.ptr b 0, .inr rfl, hobj, hty, fun x hx a b' off len cap esz e => ?_⟩
          rw [hgb6] at hx
          subst e
          simp only [Option.some.injEq, AObj.cells.injEq, List.cons.injEq, and_true] at hx
          obtain ⟨_, hx⟩ := hx
          rcases htag with k | ⟨b2, len2, k, k2⟩
          · rw [k] at hx; cases hx
          · rw [k] at hx
            simp only [AV.slice.injEq] at hx
            obtain ⟨rfl, rfl, rfl, rfl, rfl⟩ := hx
            refine ⟨rfl, rfl, rfl, ?_, s7.ty _ _ k2⟩
            rw [k] at p5
            unfold bytesV at p5
            have hl : ((s ++ t).map fun c => [byteCellV c]).length = (s ++ t).length := List.length_map ..
            generalize ((s ++ t).map fun c => [byteCellV c]) = els at p5 hl
            cases p5 with
            | vec => exact hl
        have hsr := s3.swap hg6 (fun e => by cases e) hbb6 hbld trivial
        rw [put_put] at hsr
        refine ⟨_, H6, g6, lim_ext hx hext, ⟨l3, hsr, hfr, by rw [size_put]; exact Nat.le_refl _, fun o ho _ => hput _ o ho⟩, .tuple _ _ (.cons _ _ _ _ (.int _ _) (.cons _ _ _ _ (.undef _) .nil)), OwnV.scalar (fun _ e => by cases e) rfl⟩

theorem unbytes_of {g : Gh} : ∀ (s : Str) (off : Nat) (vs : List AV), (∀ (i : Nat) (el : List V), (s.map fun c => [byteCellV c])[i]? = some el → VAs g el ((vs.drop (off + i * 1)).take 1)) → unbytes ((vs.drop off).take s.length) = some s
  | [], off, vs, h => by rw [List.length_nil, List.take_zero]; rfl
  | c :: s, off, vs, h => by
    have h0 := h 0 [byteCellV c] rfl
    simp only [Nat.zero_mul, Nat.add_zero] at h0
    cases hd : vs.drop off with
    | nil => rw [hd] at h0; cases h0
    | cons x r =>
      rw [hd] at h0
      have ih := unbytes_of s (off + 1) vs (fun i el hi => by
        have := h (i + 1) el (by simpa using hi)
        rwa [show off + (i + 1) * 1 = off + 1 + i * 1 by omega] at this)
      have hr : vs.drop (off + 1) = r := by rw [← List.drop_drop, hd]; rfl
      rw [hr] at ih
      rw [List.length_cons, List.take_succ_cons]
      cases h0 with
      | cons _ _ _ _ h1 h2 =>
        unfold byteCellV at h1
        cases h1
        have hb : unbyte (.int .u8 (c.toNat : Int)) = some c := by
          unfold unbyte
          have := c.toNat_lt
          simp only
          rw [if_pos ⟨by omega, by omega⟩]
          simp
        simp only [unbytes, ih, hb]
theorem X_String {f tB uB : Nat} (hq : K.quiet f = false) (hx : ext f = some (eString tB uB)) : S_String P K (XS P K ext) f tB uB := by
  intro fl σ b s hfl _ hb hlen
  refine of_sim (fun g Pr H avs hS hva _ => ?_)
  rw [hq]
  simp only [Bool.false_eq_true, if_false]
  cases hva with
  | cons _ a0 _ _ h1 h2 =>
    cases h2
    cases h1 with
    | ptr _ _ bb hbb =>
      obtain ⟨ad, had, ⟨cs, e1, e2, e3, e4⟩, e5, e6⟩ := hS.obj b _ bb hb hbb
      obtain ⟨aad, asl, rfl, v0, v1⟩ : ∃ aad asl, cs = [aad, asl] ∧ VA g ad aad ∧ VA g (bytesV s) asl := by
        cases e2 with
        | cons _ x _ _ k1 k2 =>
          cases k2 with
          | cons _ y _ _ k3 k4 => cases k4; exact ⟨x, y, rfl, k1, k3⟩
      have S0 : SR g Pr (σ.put b .dead) H := hS.swap hb (fun e => by cases e) hbb trivial trivial
      have hst : Stays fl σ (σ.put b .dead) := ⟨by rw [size_put]; exact Nat.le_refl _, fun o ho _ => get_put_ne σ _ (by omega)⟩
      have o1 := e4 1 (bytesV s) asl rfl rfl _ rfl
      unfold bytesV at v1
      have hl : (s.map fun c => [byteCellV c]).length = s.length := List.length_map ..
      have hub := unbytes_of (g := g) s
      have hnil : (s.map fun c => [byteCellV c]) = [] → s = [] := fun h => List.map_eq_nil_iff.1 h
      generalize (s.map fun c => [byteCellV c]) = els at v1 hl o1 hub hnil
      cases v1 with
      | nils =>
        have : s = [] := hnil rfl
        subst this
        exact ⟨_, H, g, lim_ext hx (by unfold eString; simp only [e1]; rw [if_pos e5]), ⟨Gh.Le.refl g, S0, Fr.refl _ _ _ _ _, hst⟩, .str _, noown_strip1 rfl⟩
      | vec _ _ b2 off cap esz vs k1 k2 k3 k4 k5 =>
        obtain ⟨q1, q2, q3, q4, q5⟩ := e6 _ e1 aad b2 off _ cap esz rfl
        subst q1; subst q2; subst q3
        have o1 : els ≠ [] ∧ g.U b2 = some (.cell b 1) ∧ ¬ Pr b2 ∧ ∃ ws, H.get b2 = some (.cells ws true) := by
          rcases o1 with ⟨_, h⟩ | ⟨b3, _, _, _, h, h2⟩
          · cases h
          · simp only [AV.slice.injEq] at h
            obtain ⟨rfl, _, _, rfl, _⟩ := h
            rcases h2 with ⟨c, hc, _⟩ | ⟨_, h0, h1, h2, _, _, ws, h3, _⟩
            · cases hc
            · exact ⟨h0, h1, h2, ws, h3⟩
        obtain ⟨r0, r1, r2, ws, r3⟩ := o1
        obtain ⟨own, k1'⟩ := hS.fro b2 vs k1
        have hvs : H.get b2 = some (.cells vs true) := by
          rw [r3] at k1' ⊢
          simp only [Option.some.injEq, AObj.cells.injEq] at k1'
          rw [k1'.1]
        have hput := AH.get_put H hvs (.cells vs false)
        have hold : ∀ c, (H.put b2 (some (.cells vs false))).oldAt c = H.oldAt c := fun c => by
          rw [AH.oldAt_put]
          split
          · rename_i e; subst e; rfl
          · rfl
        have hkin : ∀ c, (H.put b2 (some (.cells vs false))).kinAt c = H.kinAt c := fun c => AH.kinAt_put _ _ _ _ (fun _ => rfl)
        have hk : ∀ c, c ≠ b2 → Keep H (H.put b2 (some (.cells vs false))) c := fun c hc => ⟨fun x hx => by rw [hput, if_neg hc]; exact hx, hold c, hkin c, fun h => h⟩
        have hne : ∀ o bo, Alive (σ.put b .dead) g o bo → bo ≠ b2 := fun o bo hal e => by
          subst e
          have := (S0.sep o _ hal).1
          rw [k1] at this; cases this
        have hne' : ∀ o bo, Alive σ g o bo → bo ≠ b2 := fun o bo hal e => by
          subst e
          have := (hS.sep o _ hal).1
          rw [k1] at this; cases this
        have hlt : b2 < H.next := hS.Clt k1
        have S1 : SR g Pr (σ.put b .dead) (H.put b2 (some (.cells vs false))) := by
          refine ⟨S0.len, fun o x bo h1 h2 => ?_, fun c ws' hc => ?_, S0.pr, fun o c hal => by rw [hold]; exact S0.sep o c hal, fun o o' c c' k k' hn => by rw [hkin, hkin]; exact S0.dist o o' c c' k k' hn,
            fun o c j k hc => by rw [hkin, hkin]; exact S0.kin o c j k hc, fun j hj => ?_, fun c hc => ?_, S0.dlow, S0.pin, S0.blt, S0.tlow⟩
          · by_cases hd : x = .dead
            · subst hd; trivial
            · have hob : o ≠ b := fun e => by
                subst e
                rw [get_put σ hb, if_pos rfl] at h1
                simp only [Option.some.injEq] at h1
                exact hd h1.symm
              refine (S0.obj o x bo h1 h2).keep (Gh.Le.refl g) (fun c j _ hu => ⟨hu, hk c (fun e => ?_)⟩) (by rw [hput, if_neg (hne o bo ⟨h2, x, h1, hd⟩)]) (fun _ _ h => h)
              subst e
              rw [r1] at hu
              simp only [Option.some.injEq, Pos.cell.injEq] at hu
              exact hob hu.1.symm
          · rw [hput]
            by_cases e : c = b2
            · subst e
              rw [k1] at hc
              simp only [Option.some.injEq] at hc
              subst hc
              exact ⟨false, if_pos rfl⟩
            · rw [if_neg e]; exact S0.fro c ws' hc
          · rw [hkin]
            refine S0.kinlt j (fun e => hj ?_)
            rw [hput]
            by_cases e2 : j = b2
            · subst e2; rw [hvs] at e; cases e
            · rw [if_neg e2]; exact e
          · have hc' : H.next ≤ c := hc
            rw [hput, if_neg (by omega)]
            exact S0.low c hc'
        have hub' := hub 0 vs k5
        have hrd : rd H b2 0 els.length = some ((vs.drop 0).take els.length) := by
          unfold rd
          rw [hvs]
          simp only
          rw [if_pos (by omega)]
        refine ⟨.str s, H.put b2 (some (.cells vs false)), g, lim_ext hx ?_, ⟨Gh.Le.refl g, S1, ⟨fun c hc => hk c (fun e => by subst e; exact r2 hc), fun o bo ho hal => by rw [hput, if_neg (hne' o bo hal)], Nat.le_refl _, fun _ _ h => h⟩, hst⟩, .str _, noown_strip1 rfl⟩
        unfold eString
        simp only [e1]
        rw [if_pos e5]
        simp only [hvs]
        rw [if_pos ⟨by rw [ne_eq, List.length_eq_zero_iff]; exact r0, by omega, q5⟩, hrd, hl]
        simp only [Option.bind_some, hub']
end
end Go.Vw.Wm
end
section
/- The walk of lex.Tokens. -/
namespace Go.Vw.Wm
open Go Go.RowKit Go.Abs Go.Vw Lx Tr
set_option maxRecDepth 20000
set_option linter.unusedSimpArgs false
set_option linter.unusedVariables false
variable {P : Program} {K : Knobs} {X : ExtV}

def resApp (out : List Tok) : Res (List Tok) → Res (List Tok)
  | .ok ts => .ok (out ++ ts)
  | .err p e => .err p e
theorem resApp_push (out : List Tok) (t : Tok) (r : Res (List Tok)) : resApp out (r.push t) = resApp (out ++ [t]) r := by
  cases r <;> simp [resApp, Res.push]
section
variable {wm : TypeId → Bool} {n fl : Nat} {Q : Ex → VEnv → St → Prop} {k : List Lf} {σ0 : St} {ft : Nat} {s : Str} {a : List V}
theorem Tokens_loop (hfl : fl ≤ σ0.size) (hp : σ0.pin ≤ σ0.size) (htk : S_token P K X ft)
    (hE : ∀ ρ' ts r, ρ' 7 = .vec true (ts.map encT) → ρ' 3 = .ptr σ0.size 0 → toks ⟨1, 1⟩ s = .ok ts → contM P K X wm n fl true Q k (.exit 0) ρ' (((σ0.push (.cells (encP ⟨0, 0⟩))).push (.cells a)).push (.cells r)))
    (hR : ∀ ρ' p e r t, ρ' 2 = .vec true [] → ρ' 3 = .ptr σ0.size 0 → ρ' 4 = .int .i64 e → toks ⟨1, 1⟩ s = .err p e → contM P K X wm n fl true Q k .ret ρ' ((((σ0.push (.cells (encP p))).push (.cells a)).push (.cells r)).push (.cells t))) :
    ∀ (m : Nat) (l : Str) (p : Pos) (out : List Tok) (ρ : VEnv), l.length ≤ m → resApp out (toks p l) = toks ⟨1, 1⟩ s → l.length ≤ 65536 → posOK p l.length → (∀ d ∈ l, d < 128) → out.length + l.length ≤ 16777216 → ρ 3 = .ptr σ0.size 0 → ρ 8 = .ptr (σ0.size + 1 + 1) 0 → ρ 7 = .vec true (out.map encT) →
      loopM P K X wm n fl true Q (l_lex_Tokens_0 ft) k ρ (((σ0.push (.cells (encP ⟨0, 0⟩))).push (.cells a)).push (.cells (encR l p))) := by
  intro m
  induction m with
  | zero =>
    intro l p out ρ hm ha hl hb has ho r3 r8 r7
    have : l = [] := List.eq_nil_of_length_eq_zero (Nat.le_zero.1 hm)
    subst this
    refine loopM_at (l_lex_Tokens_0.eq_1 _) ?_
    simp [r8, nearq hfl, pinned hp, encR]
    refine contM_to (hE _ out (encR [] p) ?_ ?_ ?_) ?_
    · simp [r7]
    · simp [r3]
    · rw [← ha, toks_nil]; simp [resApp]
    · simp [encR]
  | succ m ih =>
    intro l p out ρ hm ha hl hb has ho r3 r8 r7
    cases l with
    | nil =>
      refine loopM_at (l_lex_Tokens_0.eq_1 _) ?_
      simp [r8, nearq hfl, pinned hp, encR]
      refine contM_to (hE _ out (encR [] p) ?_ ?_ ?_) ?_
      · simp [r7]
      · simp [r3]
      · rw [← ha, toks_nil]; simp [resApp]
      · simp [encR]
    | cons c t =>
      refine loopM_at (l_lex_Tokens_0.eq_1 _) ?_
      simp [r8, nearq hfl, pinned hp, encR]
      refine callM_of (htk _ _ _ c t p (by simp [nearq hfl]) (by simp [pinned hp]) (by simp [encR]) hl hb has) ?_
      have htook := tok1_took c t
      rw [toks_cons] at ha
      cases h1 : tok1 (c :: t) with
      | bad =>
        rw [h1] at ha
        simp [tokOut, tokTook, encT, encP, nearq hfl, pinned hp, r3]
        refine contM_to (hR _ p 71 (encR (c :: t) p) (encT ⟨1, [], p⟩) ?_ ?_ ?_ ?_) ?_
        · simp
        · simp [r3]
        · simp
        · rw [← ha]; rfl
        · simp [encR, encT, encP, Lx.advs]
      | skip j =>
        rw [h1] at ha htook
        simp only [T1.took] at htook
        have hda : posOK (advs p ((c :: t).take j)) ((c :: t).drop j).length := posOK.advs _ (by rw [show ((c :: t).take j).length + ((c :: t).drop j).length = (c :: t).length by rw [← List.length_append, List.take_append_drop]]; exact hb)
        have hdl : ((c :: t).drop j).length = (c :: t).length - j := List.length_drop
        simp [tokOut, tokTook, encT, encP, nearq hfl, pinned hp, r3]
        refine loopM_to (ih ((c :: t).drop j) (advs p ((c :: t).take j)) out _ (by omega) ha (by omega) hda (fun d hd => has d (List.mem_of_mem_drop hd)) (by omega) ?_ ?_ ?_) ?_
        · simp [r3]
        · simp [r8]
        · simp [r7]
        · simp [encP]
      | tok kd tx j =>
        rw [h1] at ha htook
        simp only [T1.took] at htook
        have hda : posOK (advs p ((c :: t).take j)) ((c :: t).drop j).length := posOK.advs _ (by rw [show ((c :: t).take j).length + ((c :: t).drop j).length = (c :: t).length by rw [← List.length_append, List.take_append_drop]]; exact hb)
        have hdl : ((c :: t).drop j).length = (c :: t).length - j := List.length_drop
        have ho1 : out.length + 1 ≤ 33554432 := by omega
        simp only [resApp_push] at ha
        simp [tokOut, tokTook, encT, encP, nearq hfl, pinned hp, r3, r7, ho1]
        refine loopM_to (ih ((c :: t).drop j) (advs p ((c :: t).take j)) (out ++ [⟨kd, tx, p⟩]) _ (by omega) ha (by omega) hda (fun d hd => has d (List.mem_of_mem_drop hd)) (by simp at hdl ho htook ⊢; omega) ?_ ?_ ?_) ?_
        · simp [r3]
        · simp [r8]
        · simp [encT, encP]
        · simp [encP]
end
def tokensOut : Res (List Tok) → V
  | .ok ts => .tuple [.vec false (ts.map encT), .agg (encP ⟨0, 0⟩), .int .i64 0]
  | .err p e => .tuple [.vec false [], .agg (encP p), .int .i64 e]
def S_Tokens (P : Program) (K : Knobs) (X : ExtV) (f : Nat) : Prop := ∀ (fl : Nat) (σ : St) (s : Str), fl ≤ σ.size → σ.pin ≤ σ.size →
    Big P K X (.call fl f [.str s] σ (tokensOut (tokens s)) σ)
theorem check_zero {s : Str} (h : (check s).2 = 0) : check s = (⟨0, 0⟩, 0) ∧ s.length ≤ 65536 := by
  have hb := check_ok_bytes h
  unfold Lx.check at h ⊢
  split at h
  · simp at h
  · rename_i hl
    rw [if_neg hl]
    refine ⟨?_, by omega⟩
    have key : ∀ (l : Str) (p : Pos), (checkL p l).2 = 0 → checkL p l = (⟨0, 0⟩, 0) := by
      intro l
      induction l with
      | nil => intro p _; rfl
      | cons a l ih =>
        intro p h
        rw [checkL] at h ⊢
        split at h
        · simp at h
        · rename_i h1
          rw [if_neg h1]
          split at h
          · rename_i h2; rw [if_pos h2]; exact ih _ h
          · rename_i h2
            rw [if_neg h2]
            split at h
            · simp at h
            · rename_i h3; rw [if_neg h3]; exact ih _ h
    exact key _ _ h
theorem Tokens_ok {f fc ft : Nat} (hc : S_check P K X fc) (ht : S_token P K X ft) (H : Has P K f false (c_lex_Tokens fc ft)) : S_Tokens P K X f := by
  intro fl σ s hfl hp
  refine H_call H (Nat.le_of_ble_eq_true rfl) ?_
  simp [c_lex_Tokens]
  refine callM_of (hc _ _ s (by simp [nearq hfl]) (by simp [pinned hp])) ?_
  unfold Lx.tokens
  cases hck : Lx.check s with
  | mk p e =>
    by_cases he : e = 0
    · have hz := check_zero (s := s) (by rw [hck]; exact he)
      have hb := check_ok_bytes (l := s) (by rw [hck]; exact he)
      rw [hck] at hz
      simp only [Prod.mk.injEq] at hz
      obtain ⟨⟨rfl, rfl⟩, hl⟩ := hz
      have hasc : ∀ d ∈ s, d < 128 := by
        intro d hd
        rcases hb d hd with h | ⟨h1, h2⟩
        · subst h; decide
        · rw [UInt8.lt_iff_toNat_lt]
          have : ¬ 126 < d.toNat := fun h => h2 (by rw [gt_iff_lt, UInt8.lt_iff_toNat_lt]; exact h)
          have : (128 : UInt8).toNat = 128 := rfl
          omega
      simp [nearq hfl, pinned hp, encP]
      refine loopM_to (Tokens_loop (a := encP ⟨0, 0⟩) (s := s) hfl hp ht ?_ ?_ s.length s ⟨1, 1⟩ [] _ (Nat.le_refl _) ?_ hl ?_ hasc ?_ ?_ ?_ ?_) ?_
      · intro ρ' ts r r7 r3 hts
        rw [hts]
        simp [r7, r3, nearq hfl, pinned hp, encP, tokensOut]
      · intro ρ' p e r t r2 r3 r4 hts
        rw [hts]
        simp [r2, r3, r4, nearq hfl, pinned hp, encP, tokensOut]
      · cases toks ⟨1, 1⟩ s <;> simp [resApp]
      · unfold posOK; simp; omega
      · simp; omega
      all_goals simp [encP, encR]
    · simp [he, encP, nearq hfl, pinned hp, tokensOut]
end Go.Vw.Wm
end
section
/- What parsing leaves: a piece of what was there. -/
namespace Tr
open Lx

def LG {ts : List Tok} : PR (List Node) → Prop
  | .ok a r => r <:+ ts ∧ a.length + r.length ≤ ts.length
  | .err _ e => e ≠ 0
theorem behind_suf (ts : List Tok) : behind ts <:+ ts := List.dropWhile_suffix _
theorem span_len (ts : List Tok) : (wordsOf ts).length + (behind ts).length = ts.length := by
  have := congrArg List.length (List.takeWhile_append_dropWhile (p := plain) (l := ts))
  rw [List.length_append] at this
  exact this
theorem pLS : ∀ (N : Nat), (∀ (ts : List Tok) (deep : Nat) (op : Pos), ts.length ≤ N → LG (ts := ts) (pL deep op ts)) ∧ (∀ (t0 : Tok) (r0 : List Tok) (deep : Nat), r0.length + 1 ≤ N → t0.kind = 1 → LG (ts := t0 :: r0) (pS deep (t0 :: r0))) := by
  intro N
  induction N with
  | zero =>
    refine ⟨fun ts deep op h => ?_, fun t0 r0 deep h => by omega⟩
    have : ts = [] := List.eq_nil_of_length_eq_zero (by omega)
    subst this
    rw [pL_nil]
    split <;> simp [LG]
  | succ N ih =>
    obtain ⟨ihL, ihS⟩ := ih
    have hS : ∀ (t0 : Tok) (r0 : List Tok) (deep : Nat), r0.length + 1 ≤ N + 1 → t0.kind = 1 → LG (ts := t0 :: r0) (pS deep (t0 :: r0)) := by
      intro t0 r0 deep h h0
      rw [pS_cons deep t0 r0 h0]
      have hb := behind_lt (ts := r0) h0
      have hs := behind_suf (t0 :: r0)
      have hl := span_len (t0 :: r0)
      cases hbe : behind (t0 :: r0) with
      | nil => simp [LG]
      | cons t r =>
        rw [hbe] at hb hs hl
        have hr : r <:+ t0 :: r0 := (List.suffix_cons t r).trans hs
        simp only
        split
        · have hs2 := behind_suf r
          have hl2 := span_len r
          cases hbr : behind r with
          | nil => simp [LG]
          | cons u r2 =>
            rw [hbr] at hs2 hl2
            simp only
            split
            · cases r2 with
              | nil => simp [LG]
              | cons v r3 =>
                simp only
                split
                · refine ⟨((List.suffix_cons v r3).trans (List.suffix_cons u _)).trans (hs2.trans hr), ?_⟩
                  simp [leaves] at hb hl hl2 ⊢
                  omega
                · simp [LG]
            · simp [LG]
        · split
          · refine ⟨hr, ?_⟩
            simp at hb ⊢; omega
          · split
            · split
              · simp [LG]
              · have := ihL r (deep + 1) t.pos (by simp at hb; omega)
                cases hq : pL (deep + 1) t.pos r with
                | err p e => rw [hq] at this; exact this
                | ok k r2 =>
                  rw [hq] at this
                  refine ⟨this.1.trans hr, ?_⟩
                  have h2 := this.1.length_le
                  simp at hb ⊢; omega
            · simp [LG]
    refine ⟨fun ts deep op h => ?_, hS⟩
    cases ts with
    | nil => rw [pL_nil]; split <;> simp [LG]
    | cons t ts =>
      rw [pL_cons]
      split
      · split
        · exact ⟨List.suffix_cons t ts, by simp⟩
        · simp [LG]
      · split
        · rename_i h1
          have hs := hS t ts deep h h1
          cases hp : pS deep (t :: ts) with
          | err p e => rw [hp] at hs; exact hs
          | ok a r =>
            rw [hp] at hs
            have hlt := pS_left deep (t :: ts) ⟨t, ts, rfl, h1⟩ hp
            have hr := ihL r deep op (by simp at hlt h; omega)
            simp only
            cases hq : pL deep op r with
            | err p e => rw [hq] at hr; exact hr
            | ok b r2 =>
              rw [hq] at hr
              refine ⟨hr.1.trans hs.1, ?_⟩
              have := hr.2
              have := hs.2
              simp only [List.length_append]
              omega
        · simp [LG]
theorem pL_good (ts : List Tok) (deep : Nat) (op : Pos) : LG (ts := ts) (pL deep op ts) := (pLS ts.length).1 ts deep op (Nat.le_refl _)
theorem pS_good (t0 : Tok) (r0 : List Tok) (deep : Nat) (h : t0.kind = 1) : LG (ts := t0 :: r0) (pS deep (t0 :: r0)) := (pLS (r0.length + 1)).2 t0 r0 deep (Nat.le_refl _) h
end Tr
end
section
/- The walks of tree.Parse. -/
namespace Go.Vw.Wm
open Go Go.RowKit Go.Abs Go.Vw Lx Tr
set_option maxRecDepth 20000
set_option linter.unusedSimpArgs false
set_option linter.unusedVariables false
variable {P : Program} {K : Knobs} {X : ExtV}

/-- How parsing ends. -/
def Fin (x : PR (List Node)) (r : Rd) (a : List Node) (r' : Rd) : Prop := match x with
  | .ok b rest => a = b ∧ r' = { r with toks := rest }
  | .err p e => r'.err = e ∧ r'.pos = p ∧ r'.toks.length ≤ r.toks.length ∧ a.length ≤ r.toks.length
def kinds (l : List Tok) : Prop := ∀ t ∈ l, t.kind ≠ 0
def S_stmtN (P : Program) (K : Knobs) (X : ExtV) (f N : Nat) : Prop := ∀ (fl : Nat) (σ : St) (x : Nat) (r : Rd) (deep : Nat) (t0 : Tok) (r0 : List Tok), fl ≤ x → σ.pin ≤ σ.size → σ.get x = some (.cells r.enc) → r.err = 0 → r.toks = t0 :: r0 → t0.kind = 1 → kinds r.toks → deep ≤ 32 → r.toks.length ≤ N → r.toks.length ≤ 16777216 →
    ∃ bb a r', Fin (pS deep r.toks) r a r' ∧ Big P K X (.call fl f [.ptr x 0, .int .i64 deep] σ (.vec bb (encNs a)) (σ.put x (.cells r'.enc)))
def S_listN (P : Program) (K : Knobs) (X : ExtV) (f N : Nat) : Prop := ∀ (fl : Nat) (σ : St) (x : Nat) (r : Rd) (deep : Nat) (op : Pos), fl ≤ x → σ.pin ≤ σ.size → σ.get x = some (.cells r.enc) → r.err = 0 → kinds r.toks → deep ≤ 32 → r.toks.length ≤ N → r.toks.length ≤ 16777216 →
    ∃ a r', Fin (pL deep op r.toks) r a r' ∧ Big P K X (.call fl f [.ptr x 0, .int .i64 deep, .agg (encP op)] σ (.vec false (encNs a)) (σ.put x (.cells r'.enc)))

section
variable {wm : TypeId → Bool} {n fl : Nat} {Q : Ex → VEnv → St → Prop} {k : List Lf} {fn ff fo fs N : Nat} {σ0 : St} {x : Nat} {c0 : VObj} {deep : Nat} {op : Pos} {D : List Node → Rd → Prop}
theorem list_err (hfl : fl ≤ x) (hp : σ0.pin ≤ σ0.size) (hx : σ0.get x = some c0)
    (hE : ∀ ρ' a r', D a r' → ρ' 7 = .vec true (encNs a) → contM P K X wm n fl true Q k (.exit 0) ρ' ((σ0.put x (.cells r'.enc)).push (.cells (encP op))))
    {r : Rd} {out : List Node} {ρ : VEnv} (he : r.err ≠ 0) (h0 : ρ 0 = .ptr x 0) (h7 : ρ 7 = .vec true (encNs out)) (hD : D out r) :
    loopM P K X wm n fl true Q (l_tree_reader_list_0 fn ff fo fs) k ρ ((σ0.put x (.cells r.enc)).push (.cells (encP op))) := by
  have hxs := get_lt hx
  refine loopM_at (l_tree_reader_list_0.eq_1 _ _ _ _) ?_
  simp [h0, near hfl hxs, pinned hp, hx, Rd.enc, he]
  refine contM_to (hE _ out r hD ?_) ?_ <;> simp [h7, encNs_map, Rd.enc]
theorem list_nil (hfl : fl ≤ x) (hp : σ0.pin ≤ σ0.size) (hx : σ0.get x = some c0) (hn : S_next P K X fn) (hf : S_fail P K X ff)
    (hR : ∀ ρ' a r', D a r' → ρ' 6 = .vec false (encNs a) → contM P K X wm n fl true Q k .ret ρ' ((σ0.put x (.cells r'.enc)).push (.cells (encP op))))
    {p : Pos} {out : List Node} {ρ : VEnv} (h0 : ρ 0 = .ptr x 0) (h1 : ρ 1 = .int .i64 deep) (h5 : ρ 5 = .ptr σ0.size 0) (h7 : ρ 7 = .vec true (encNs out))
    (hD : ∀ a r', Fin (pL deep op []) ⟨[], 0, p⟩ a r' → D (out ++ a) r') :
    loopM P K X wm n fl true Q (l_tree_reader_list_0 fn ff fo fs) k ρ ((σ0.put x (.cells (⟨[], 0, p⟩ : Rd).enc)).push (.cells (encP op))) := by
  have hxs := get_lt hx
  refine loopM_at (l_tree_reader_list_0.eq_1 _ _ _ _) ?_
  simp [h0, near hfl hxs, pinned hp, hx, Rd.enc]
  refine callM_of (hn _ _ _ ⟨[], 0, p⟩ (by simp [near hfl hxs]) (by simp [near hfl hxs, hx, Rd.enc])) ?_
  by_cases hz : 0 < deep
  · simp [h1, hz, h0, h5]
    refine callM_of (hf _ _ _ ⟨[], 0, p⟩ 71 op hfl (by simp [pinned hp]) (by simp [near hfl hxs, hx, Rd.enc])) ?_
    simp [h7, near hfl hxs]
    refine contM_to (hR _ (out ++ []) ⟨[], 71, op⟩ (hD [] _ ?_) ?_) ?_
    · rw [pL_nil, if_pos hz]
      simp [Fin]
    · simp
    · simp [Rd.fail, Rd.enc]
  · simp [h1, hz, h0, h5, h7]
    refine contM_to (hR _ (out ++ []) ⟨[], 0, p⟩ (hD [] _ ?_) ?_) ?_
    · rw [pL_nil, if_neg hz]
      simp [Fin]
    · simp
    · simp [Rd.fail, Rd.enc]
theorem list_loop (hfl : fl ≤ x) (hp : σ0.pin ≤ σ0.size) (hx : σ0.get x = some c0) (hn : S_next P K X fn) (hf : S_fail P K X ff) (ho : S_off P K X fo) (hs : S_stmtN P K X fs N) (hd : deep ≤ 32)
    (hE : ∀ ρ' a r', D a r' → ρ' 7 = .vec true (encNs a) → contM P K X wm n fl true Q k (.exit 0) ρ' ((σ0.put x (.cells r'.enc)).push (.cells (encP op))))
    (hR : ∀ ρ' a r', D a r' → ρ' 6 = .vec false (encNs a) → contM P K X wm n fl true Q k .ret ρ' ((σ0.put x (.cells r'.enc)).push (.cells (encP op)))) :
    ∀ (m : Nat) (r : Rd) (out : List Node) (ρ : VEnv), r.toks.length ≤ m → r.toks.length ≤ N → r.err = 0 → kinds r.toks → out.length + r.toks.length ≤ 16777216 → ρ 0 = .ptr x 0 → ρ 1 = .int .i64 deep → ρ 5 = .ptr σ0.size 0 → ρ 7 = .vec true (encNs out) →
      (∀ a r', Fin (pL deep op r.toks) r a r' → D (out ++ a) r') →
      loopM P K X wm n fl true Q (l_tree_reader_list_0 fn ff fo fs) k ρ ((σ0.put x (.cells r.enc)).push (.cells (encP op))) := by
  have hxs := get_lt hx
  intro m
  induction m with
  | zero =>
    intro r out ρ hm hN he hk hb h0 h1 h5 h7 hD
    obtain ⟨toks, e, p⟩ := r
    simp only at he
    subst he
    have : toks = [] := List.eq_nil_of_length_eq_zero (Nat.le_zero.1 hm)
    subst this
    exact list_nil hfl hp hx hn hf hR h0 h1 h5 h7 hD
  | succ m ih =>
    intro r out ρ hm hN he hk hb h0 h1 h5 h7 hD
    obtain ⟨toks, e, p⟩ := r
    simp only at he
    subst he
    cases toks with
    | nil => exact list_nil hfl hp hx hn hf hR h0 h1 h5 h7 hD
    | cons t ts =>
      have ht0 : t.kind ≠ 0 := hk t (by simp)
      have hz0 : ¬ ((t.kind : Int) = 0) := by omega
      refine loopM_at (l_tree_reader_list_0.eq_1 _ _ _ _) ?_
      simp [h0, near hfl hxs, pinned hp, hx, Rd.enc]
      refine callM_of (hn _ _ _ ⟨t :: ts, 0, p⟩ (by simp [near hfl hxs]) (by simp [near hfl hxs, hx, Rd.enc])) ?_
      simp only [] at hD
      by_cases h3 : t.kind = 3
      · by_cases hz : 0 < deep
        · simp [h1, h3, hz, h0]
          refine callM_of (ho _ _ _ ⟨t :: ts, 0, p⟩ t ts hfl (by simp [pinned hp]) (by simp [near hfl hxs, hx, Rd.enc]) rfl) ?_
          simp [h7, near hfl hxs]
          refine contM_to (hR _ (out ++ []) ⟨ts, 0, p⟩ (hD [] _ ?_) ?_) ?_
          · rw [pL_cons, if_pos h3, if_pos hz]
            simp [Fin]
          · simp
          · simp [Rd.enc]
        · simp [h1, h3, hz, h0, near hfl hxs, hx, encToks, encT]
          refine callM_of (hf _ _ _ ⟨t :: ts, 0, p⟩ 130 t.pos hfl (by simp [pinned hp]) (by simp [near hfl hxs, hx, Rd.enc, encToks, encT, h3])) ?_
          simp [near hfl hxs, pinned hp]
          refine loopM_to (list_err hfl hp hx hE (r := ⟨t :: ts, 130, t.pos⟩) (out := out ++ []) (by simp) ?_ ?_ (hD [] _ ?_)) ?_
          · simp [h0, near hfl hxs]
          · simp [h7, encNs_map]
          · rw [pL_cons, if_pos h3, if_neg hz]
            simp [Fin]
          · simp [Rd.fail, Rd.enc]
      · have h3' : ¬ ((t.kind : Int) = 3) := by omega
        by_cases h1' : t.kind = 1
        · simp [h1, h1', h0, h7]
          obtain ⟨bb, a, r', hfin, hbig⟩ := hs fl ((σ0.put x (.cells (⟨t :: ts, 0, p⟩ : Rd).enc)).push (.cells (encP op))) x ⟨t :: ts, 0, p⟩ deep t ts hfl (by simp [pinned hp]) (by simp [near hfl hxs, hx]) rfl rfl h1' hk hd hN (by simp at hb ⊢; omega)
          refine callM_of hbig ?_
          have hlg := pS_good t ts deep h1'
          have hal : out.length + a.length ≤ 33554432 := by
            simp only [Fin] at hfin
            cases hps : pS deep (t :: ts) with
            | ok b rest => rw [hps] at hfin hlg; have := hlg.2; simp at hb this hfin; rw [hfin.1]; omega
            | err pp ee => rw [hps] at hfin; simp at hb hfin; omega
          simp [near hfl hxs, pinned hp, encNs_map, hal]
          by_cases he' : r'.err = 0
          · have hps : ∃ b rest, pS deep (t :: ts) = .ok b rest := by
              cases hps : pS deep (t :: ts) with
              | ok b rest => exact ⟨_, _, rfl⟩
              | err pp ee => rw [hps] at hlg; simp only [Fin, hps] at hfin; exact absurd (hfin.1.symm.trans he') hlg
            obtain ⟨b, rest, hps⟩ := hps
            simp only [Fin, hps] at hfin
            obtain ⟨rfl, rfl⟩ := hfin
            rw [hps] at hlg
            have hsl := pS_left deep (t :: ts) ⟨t, ts, rfl, h1'⟩ hps
            refine loopM_to (ih ⟨rest, 0, p⟩ (out ++ a) _ (by simp at hm hsl ⊢; omega) (by simp at hN hsl ⊢; omega) rfl (fun u hu => hk u (hlg.1.subset hu)) (by have := hlg.2; simp at hb this ⊢; omega) ?_ ?_ ?_ ?_ ?_) ?_
            · simp [h0, near hfl hxs]
            · simp [h1]
            · simp [h5]
            · simp [encNs_map]
            · intro b r' hr'
              rw [List.append_assoc]
              refine hD _ _ ?_
              rw [pL_cons, if_neg h3, if_pos h1', hps]
              simp only
              cases hq : pL deep op rest with
              | ok b2 r2 => rw [hq] at hr'; simp only [Fin] at hr' ⊢; exact ⟨by rw [hr'.1], hr'.2⟩
              | err pp ee =>
                rw [hq] at hr'
                simp only [Fin] at hr' ⊢
                have := hlg.2
                refine ⟨hr'.1, hr'.2.1, ?_, ?_⟩
                · simp at hr' this ⊢; omega
                · simp at hr' this ⊢; omega
            · simp [Rd.enc]
          · refine loopM_to (list_err hfl hp hx hE (r := r') (out := out ++ a) he' ?_ ?_ (hD a r' ?_)) ?_
            · simp [h0, near hfl hxs]
            · simp [encNs_map]
            · rw [pL_cons, if_neg h3, if_pos h1']
              cases hps : pS deep (t :: ts) with
              | ok b rest => simp only [Fin, hps] at hfin; exact absurd (by rw [hfin.2]) he'
              | err pp ee => rw [hps] at hfin; exact hfin
            · simp
        · have h1'' : ¬ ((t.kind : Int) = 1) := by omega
          simp [h1, h3, h3', h1', h1'', ht0, h0, near hfl hxs, hx, encToks, encT]
          refine callM_of (hf _ _ _ ⟨t :: ts, 0, p⟩ 130 t.pos hfl (by simp [pinned hp]) (by simp [near hfl hxs, hx, Rd.enc, encToks, encT])) ?_
          simp [near hfl hxs, pinned hp]
          refine loopM_to (list_err hfl hp hx hE (r := ⟨t :: ts, 130, t.pos⟩) (out := out ++ []) (by simp) ?_ ?_ (hD [] _ ?_)) ?_
          · simp [h0, near hfl hxs]
          · simp [h7, encNs_map]
          · rw [pL_cons, if_neg h3, if_neg h1']
            simp [Fin]
          · simp [Rd.fail, Rd.enc]
end
theorem list_okN {f fn ff fo fs N : Nat} (hn : S_next P K X fn) (hf : S_fail P K X ff) (ho : S_off P K X fo) (hs : S_stmtN P K X fs N) (H : Has P K f false (c_tree_reader_list fn ff fo fs)) : S_listN P K X f N := by
  intro fl σ x r deep op hfl hp hx he hk hd hN hb
  have hxs := get_lt hx
  have h : ∃ v σ', (∃ a r', Fin (pL deep op r.toks) r a r' ∧ v = .vec false (encNs a) ∧ σ' = σ.put x (.cells r'.enc)) ∧ Big P K X (.call fl f [.ptr x 0, .int .i64 deep, .agg (encP op)] σ v σ') := by
    refine H_callE H (Nat.le_of_ble_eq_true rfl) ?_
    simp [c_tree_reader_list, encP]
    refine loopM_to (list_loop (op := op) (D := fun a r' => Fin (pL deep op r.toks) r a r') hfl hp hx hn hf ho hs hd ?_ ?_ r.toks.length r [] _ (Nat.le_refl _) hN he hk (by simpa using hb) ?_ ?_ ?_ ?_ ?_) ?_
    · intro ρ' a r' h1 h7
      simp [h7, near hfl hxs, pinned hp, encNs_map, encP]
      exact ⟨a, r', h1, rfl, rfl⟩
    · intro ρ' a r' h1 h6
      simp [h6, near hfl hxs, pinned hp, encNs_map, encP]
      exact ⟨a, r', h1, rfl, rfl⟩
    · simp
    · simp
    · simp
    · simp [encNs]
    · simp
    · simp [put_get hx, encP]
  obtain ⟨v, σ', ⟨a, r', h1, rfl, rfl⟩, h2⟩ := h
  exact ⟨a, r', h1, h2⟩
end Go.Vw.Wm
end
section
/- The walk of a statement. -/
namespace Go.Vw.Wm
open Go Go.RowKit Go.Abs Go.Vw Lx Tr
set_option maxRecDepth 20000
set_option linter.unusedSimpArgs false
set_option linter.unusedVariables false
variable {P : Program} {K : Knobs} {X : ExtV}

def S_clone (P : Program) (K : Knobs) (X : ExtV) (f size : Nat) : Prop := ∀ (fl : Nat) (σ : St) (o : Bool) (els : List (List V)), fl ≤ σ.size → els.all (fun e => decide (e.length = size)) = true → els.length ≤ 33554432 →
    Big P K X (.call fl f [.vec o els] σ (.vec true els) σ)

theorem leaves_append (ws a b : List Tok) : leaves ws (a ++ b) = leaves ws a ++ leaves ws b := List.map_append
section
variable {wm : TypeId → Bool} {n fl : Nat} {Q : Ex → VEnv → St → Prop} {k : List Lf} {fc fp : Nat} {σ : St} {a6 a8 a5 x : Nat} {deep : Int} {ws inner : List Tok}
theorem leaves_loop (hc : S_clone P K X fc 1) (hcp : S_clone P K X fp 2) (hfl : fl ≤ σ.size) (hp : σ.pin ≤ σ.size) (h6 : σ.get a6 = some (.cells (encN (leafOf ws)))) (h8 : σ.get a8 = some (.cells (encN (leafOf inner)))) (hx : x < σ.size) (h5 : a5 < σ.size)
    (hb : ws.length + inner.length ≤ 16777216)
    (hE : ∀ ρ', ρ' 0 = .ptr x 0 → ρ' 1 = .int .i64 deep → ρ' 5 = .ptr a5 0 → ρ' 6 = .ptr a6 0 → ρ' 7 = .vec true (encNs (leaves ws inner)) → contM P K X wm n fl true Q k (.exit 0) ρ' σ) :
    ∀ (rest done : List Tok) (ρ : VEnv), inner = done ++ rest → ρ 0 = .ptr x 0 → ρ 1 = .int .i64 deep → ρ 5 = .ptr a5 0 → ρ 6 = .ptr a6 0 → ρ 8 = .ptr a8 0 → ρ 7 = .vec true (encNs (leaves ws done)) →
      ρ 29 = .vec false (inner.map fun t => wordCell t.text) → ρ 30 = .int .i64 inner.length → ρ 31 = .int .i64 done.length →
      loopM P K X wm n fl true Q (l_tree_reader_statement_0 fc fp) k ρ σ := by
  have ha6 := get_lt h6
  have ha8 := get_lt h8
  intro rest
  induction rest with
  | nil =>
    intro done ρ hi r0 r1 r5 r6 r8 r7 r29 r30 r31
    rw [List.append_nil] at hi
    subst hi
    refine loopM_at (l_tree_reader_statement_0.eq_1 _ _) ?_
    simp [r30, r31, hp]
    refine hE _ ?_ ?_ ?_ ?_ ?_ <;> simp [r0, r1, r5, r6, r7, hx, h5, ha6, encNs_map]
  | cons t rest ih =>
    intro done ρ hi r0 r1 r5 r6 r8 r7 r29 r30 r31
    have hlen : done.length < inner.length := by rw [hi]; simp
    have hget : inner[done.length]? = some t := by rw [hi]; simp
    have hlt : (done.length : Int) < (inner.length : Int) := by omega
    refine loopM_at (l_tree_reader_statement_0.eq_1 _ _) ?_
    have hgi : inner[done.length] = t := by
      rw [List.getElem?_eq_getElem hlen] at hget
      exact Option.some.inj hget
    have hl0 : done.length ≤ 16777216 := by omega
    have hl1 : (leaves ws done).length + 1 ≤ 33554432 := by simp [leaves]; omega
    have hl2 : ws.length + 1 ≤ 33554432 := by omega
    simp [r30, r31, r29, r7, r6, r8, r1, hp, hlen, hlt, hgi, h6, h8, leafOf, encN, wordCell]
    refine callM_of (hc _ _ _ _ hfl (by simp [wordCell]) (by simp; omega)) ?_
    simp [r6, h6, hp, hl2, wordCell, leafOf, encN]
    refine callM_of (hcp _ _ _ _ hfl (by simp) (by simp; omega)) ?_
    have hw : IntKind.i64.wrap ((done.length : Int) + 1) = (done.length : Int) + 1 := wrap_i64 (by omega) (by omega)
    simp [r8, h8, hp, hl2, wordCell, leafOf, encN, hlen, hgi, encP, encNs_map, hl1, r31, hw]
    refine ih (done ++ [t]) _ (by rw [hi]; simp) ?_ ?_ ?_ ?_ ?_ ?_ ?_ ?_ ?_
    all_goals simp (maxDischargeDepth := 6) [r0, r1, r5, r6, r8, r29, r30, hx, h5, ha6, ha8, encNs_map, leaves_append, leaves, leafOf, encN, wordCell, encP, Function.comp_def]
end

theorem stmt_okN {f fw fn fo fc fp ff fli N : Nat} (hw : S_words P K X fw) (hn : S_next P K X fn) (ho : S_off P K X fo) (hc : S_clone P K X fc 1) (hcp : S_clone P K X fp 2) (hf : S_fail P K X ff) (hl : S_listN P K X fli N) (H : Has P K f false (c_tree_reader_statement fw fn fo fc fp ff fli)) : S_stmtN P K X f (N + 1) := by
  intro fl σ x r deep t0 r0 hfl hp hx he hr h0 hk hd hN hb
  have hxs := get_lt hx
  obtain ⟨toks, e, p⟩ := r
  simp only at he hr
  subst he hr
  have h : ∀ (R : V → St → Prop), (∀ bb a r', Fin (pS deep (t0 :: r0)) ⟨t0 :: r0, 0, p⟩ a r' → R (.vec bb (encNs a)) (σ.put x (.cells r'.enc))) → ∃ v σ', R v σ' ∧ Big P K X (.call fl f [.ptr x 0, .int .i64 deep] σ v σ') := by
    intro R hR
    refine H_callE H (Nat.le_of_ble_eq_true rfl) ?_
    rw [pS_cons deep t0 r0 h0] at hR
    have hsuf := behind_suf (t0 :: r0)
    have hlen := span_len (t0 :: r0)
    have hblt := behind_lt (ts := r0) h0
    simp [c_tree_reader_statement, hx, Rd.enc, encToks, encT, encP, near hfl hxs]
    refine callM_of (hw _ _ _ ⟨t0 :: r0, 0, p⟩ hfl (by simp [pinned hp]) (by simp [near hfl hxs, hx, Rd.enc, encToks, encT, encP]) (by simpa using hb)) ?_
    simp [Rd.words, leafOf, encN, encNs, near hfl hxs]
    refine callM_of (hn _ _ _ (Rd.past ⟨t0 :: r0, 0, p⟩) (by simp [near hfl hxs]) (by simp [near hfl hxs, hx])) ?_
    simp [Rd.past]
    cases hbe : behind (t0 :: r0) with
    | nil =>
      rw [hbe] at hR
      simp [near hfl hxs]
      refine callM_of (hn _ _ _ ⟨[], 0, p⟩ (by simp [near hfl hxs]) (by simp [near hfl hxs, hx])) ?_
      simp [near hfl hxs]
      refine callM_of (hf _ _ _ ⟨[], 0, p⟩ 71 t0.pos hfl (by simp [pinned hp]) (by simp [near hfl hxs, hx])) ?_
      simp [near hfl hxs, pinned hp]
      simpa [Rd.fail, encNs] using hR true [] ⟨[], 71, t0.pos⟩ (by simp [Fin])
    | cons t r =>
      rw [hbe] at hR hsuf hlen hblt
      have htk : t.kind ≠ 0 := hk t (hsuf.subset (by simp))
      simp only at hR
      by_cases h5 : t.kind = 5
      · rw [if_pos h5] at hR
        simp [h5, near hfl hxs]
        refine callM_of (ho _ _ _ ⟨t :: r, 0, p⟩ t r hfl (by simp [pinned hp]) (by simp [near hfl hxs, hx]) rfl) ?_
        simp [near hfl hxs]
        refine callM_of (hw _ _ _ ⟨r, 0, p⟩ hfl (by simp [pinned hp]) (by simp [near hfl hxs, hx]) (by simp at hblt hb ⊢; omega)) ?_
        simp [near hfl hxs, Rd.words, Rd.past, leafOf, encN, encNs]
        have hlen2 := span_len r
        have hsuf2 := behind_suf r
        have hblt2 := behind_le r
        refine leaves_loop (a6 := σ.size + 1) (a8 := σ.size + 1 + 1) (a5 := σ.size) (x := x) (deep := deep) (ws := wordsOf (t0 :: r0)) (inner := wordsOf r) hc hcp (by simp [near hfl hxs]) (by simp [pinned hp]) (by simp [leafOf, encN, encNs]) (by simp [leafOf, encN, encNs]) (by simp [near hfl hxs]) (by simp) (by simp at hlen hb ⊢; omega) ?_ (wordsOf r) [] _ rfl ?_ ?_ ?_ ?_ ?_ ?_ ?_ ?_ ?_
        · intro ρ' r0' r1' r5' r6' r7'
          simp [r0', r1', r5', r6', r7', near hfl hxs]
          cases hbr : behind r with
          | nil =>
            rw [hbr] at hR
            refine callM_of (hn _ _ _ ⟨[], 0, p⟩ (by simp [near hfl hxs]) (by simp [near hfl hxs, hx])) ?_
            simp [near hfl hxs, r0']
            refine callM_of (hn _ _ _ ⟨[], 0, p⟩ (by simp [near hfl hxs]) (by simp [near hfl hxs, hx])) ?_
            simp [near hfl hxs, r0']
            refine callM_of (hn _ _ _ ⟨[], 0, p⟩ (by simp [near hfl hxs]) (by simp [near hfl hxs, hx])) ?_
            simp [near hfl hxs, r0', r5']
            refine callM_of (hf _ _ _ ⟨[], 0, p⟩ 71 t0.pos hfl (by simp [pinned hp]) (by simp [near hfl hxs, hx])) ?_
            simp [near hfl hxs, pinned hp]
            simpa [Rd.fail, encNs] using hR true [] ⟨[], 71, t0.pos⟩ (by simp [Fin])
          | cons u r2 =>
            rw [hbr] at hR hsuf2 hlen2 hblt2
            have huk : u.kind ≠ 0 := hk u (hsuf.subset (by simp; exact .inr (hsuf2.subset (by simp))))
            have huk' : ¬ ((u.kind : Int) = 0) := by omega
            simp only at hR
            refine callM_of (hn _ _ _ ⟨u :: r2, 0, p⟩ (by simp [near hfl hxs]) (by simp [near hfl hxs, hx])) ?_
            by_cases h6 : u.kind = 6 ∧ wordsOf r ≠ []
            · rw [if_pos h6] at hR
              have hne : 0 < (leaves (wordsOf (t0 :: r0)) (wordsOf r)).length := by
                simp [leaves]
                exact List.length_pos_iff.2 h6.2
              simp [near hfl hxs, r0', r7', h6.1, encNs_map, hne]
              refine callM_of (ho _ _ _ ⟨u :: r2, 0, p⟩ u r2 hfl (by simp [pinned hp]) (by simp [near hfl hxs, hx]) rfl) ?_
              simp [near hfl hxs, r0']
              refine callM_of (hn _ _ _ ⟨r2, 0, p⟩ (by simp [near hfl hxs]) (by simp [near hfl hxs, hx])) ?_
              cases hr2 : r2 with
              | nil =>
                rw [hr2] at hR
                simp [near hfl hxs, r0', r5']
                refine callM_of (hf _ _ _ ⟨[], 0, p⟩ 71 t0.pos hfl (by simp [pinned hp]) (by simp [near hfl hxs, hx])) ?_
                simp [near hfl hxs, pinned hp]
                simpa [Rd.fail, encNs] using hR true [] ⟨[], 71, t0.pos⟩ (by simp [Fin])
              | cons v r3 =>
                rw [hr2] at hR hsuf2 hlen2 hblt2
                have hvk : v.kind ≠ 0 := hk v (hsuf.subset (by simp; exact .inr (hsuf2.subset (by simp))))
                have hvk' : ¬ ((v.kind : Int) = 0) := by omega
                simp only at hR
                simp [near hfl hxs, hvk, hvk', r0']
                refine callM_of (hn _ _ _ ⟨v :: r3, 0, p⟩ (by simp [near hfl hxs]) (by simp [near hfl hxs, hx])) ?_
                by_cases h4 : v.kind = 4
                · rw [if_pos h4] at hR
                  simp [near hfl hxs, r0', h4]
                  refine callM_of (ho _ _ _ ⟨v :: r3, 0, p⟩ v r3 hfl (by simp [pinned hp]) (by simp [near hfl hxs, hx]) rfl) ?_
                  simp [near hfl hxs, pinned hp, r7', encNs_map, hne]
                  simpa [encNs_map] using hR false (leaves (wordsOf (t0 :: r0)) (wordsOf r)) ⟨r3, 0, p⟩ (by simp [Fin])
                · rw [if_neg h4] at hR
                  have h4' : ¬ ((v.kind : Int) = 4) := by omega
                  have hne' : ¬ (leaves (wordsOf (t0 :: r0)) (wordsOf r)) = [] := fun e => by rw [e] at hne; simp at hne
                  simp [near hfl hxs, r0', h4, h4']
                  have hfin : R (.vec true []) (σ.put x (.cells (⟨v :: r3, 130, v.pos⟩ : Rd).enc)) := by
                    simpa [encNs] using hR true [] ⟨v :: r3, 130, v.pos⟩ (by simp [Fin] at hblt hblt2 ⊢; omega)
                  by_cases h2 : v.kind = 2
                  · refine callM_of (hn _ _ _ ⟨v :: r3, 0, p⟩ (by simp [near hfl hxs]) (by simp [near hfl hxs, hx])) ?_
                    simp [near hfl hxs, r0', h2, r7', encNs_map, hne']
                    refine callM_of (hn _ _ _ ⟨v :: r3, 0, p⟩ (by simp [near hfl hxs]) (by simp [near hfl hxs, hx])) ?_
                    simp [near hfl hxs, r0', h2, r7', encNs_map, hne', hx, Rd.enc, encToks, encT]
                    refine callM_of (hf _ _ _ ⟨v :: r3, 0, p⟩ 130 v.pos hfl (by simp [pinned hp]) (by simp [near hfl hxs, hx, Rd.enc, encToks, encT, h2])) ?_
                    simp [near hfl hxs, pinned hp, Rd.fail]
                    exact hfin
                  · have h2' : ¬ ((v.kind : Int) = 2) := by omega
                    refine callM_of (hn _ _ _ ⟨v :: r3, 0, p⟩ (by simp [near hfl hxs]) (by simp [near hfl hxs, hx])) ?_
                    simp [near hfl hxs, r0', h2, h2', r7', encNs_map, hne']
                    refine callM_of (hn _ _ _ ⟨v :: r3, 0, p⟩ (by simp [near hfl hxs]) (by simp [near hfl hxs, hx])) ?_
                    simp [near hfl hxs, r0', h2, h2', r7', encNs_map, hne', hx, Rd.enc, encToks, encT]
                    refine callM_of (hf _ _ _ ⟨v :: r3, 0, p⟩ 130 v.pos hfl (by simp [pinned hp]) (by simp [near hfl hxs, hx, Rd.enc, encToks, encT, h2])) ?_
                    simp [near hfl hxs, pinned hp, Rd.fail]
                    exact hfin
            · rw [if_neg h6] at hR
              have hfin : R (.vec true []) (σ.put x (.cells (⟨u :: r2, 130, u.pos⟩ : Rd).enc)) := by
                simpa [encNs] using hR true [] ⟨u :: r2, 130, u.pos⟩ (by simp [Fin] at hblt hblt2 ⊢; omega)
              by_cases hu : u.kind = 6
              · have hw0 : wordsOf r = [] := Classical.byContradiction fun e => h6 ⟨hu, e⟩
                have hl0 : leaves (wordsOf (t0 :: r0)) (wordsOf r) = [] := by rw [hw0]; rfl
                rw [hl0] at r7'
                simp [near hfl hxs, r0', r7', hu, encNs]
                refine callM_of (hn _ _ _ ⟨u :: r2, 0, p⟩ (by simp [near hfl hxs]) (by simp [near hfl hxs, hx])) ?_
                simp [near hfl hxs, r0', hu, hx, Rd.enc, encToks, encT]
                refine callM_of (hf _ _ _ ⟨u :: r2, 0, p⟩ 130 u.pos hfl (by simp [pinned hp]) (by simp [near hfl hxs, hx, Rd.enc, encToks, encT, hu])) ?_
                simp [near hfl hxs, pinned hp, Rd.fail]
                exact hfin
              · have hu' : ¬ ((u.kind : Int) = 6) := by omega
                simp [near hfl hxs, r0', hu, hu']
                refine callM_of (hn _ _ _ ⟨u :: r2, 0, p⟩ (by simp [near hfl hxs]) (by simp [near hfl hxs, hx])) ?_
                simp [near hfl hxs, r0', huk, huk', hx, Rd.enc, encToks, encT]
                refine callM_of (hf _ _ _ ⟨u :: r2, 0, p⟩ 130 u.pos hfl (by simp [pinned hp]) (by simp [near hfl hxs, hx, Rd.enc, encToks, encT])) ?_
                simp [near hfl hxs, pinned hp, Rd.fail]
                exact hfin
        all_goals simp [leaves, encNs, Function.comp_def]
      · rw [if_neg h5] at hR
        have h5' : ¬ ((t.kind : Int) = 5) := by omega
        simp [h5, h5', near hfl hxs]
        refine callM_of (hn _ _ _ ⟨t :: r, 0, p⟩ (by simp [near hfl hxs]) (by simp [near hfl hxs, hx])) ?_
        simp [htk, near hfl hxs]
        refine callM_of (hn _ _ _ ⟨t :: r, 0, p⟩ (by simp [near hfl hxs]) (by simp [near hfl hxs, hx])) ?_
        by_cases h4 : t.kind = 4
        · rw [if_pos h4] at hR
          simp [h4, near hfl hxs]
          refine callM_of (ho _ _ _ ⟨t :: r, 0, p⟩ t r hfl (by simp [pinned hp]) (by simp [near hfl hxs, hx]) rfl) ?_
          simp [near hfl hxs, pinned hp]
          simpa [encNs, encN, leafOf, Function.comp_def] using hR true [leafOf (wordsOf (t0 :: r0))] ⟨r, 0, p⟩ (by simp [Fin])
        · rw [if_neg h4] at hR
          have h4' : ¬ ((t.kind : Int) = 4) := by omega
          simp [h4, h4', near hfl hxs]
          refine callM_of (hn _ _ _ ⟨t :: r, 0, p⟩ (by simp [near hfl hxs]) (by simp [near hfl hxs, hx])) ?_
          by_cases h2 : t.kind = 2
          · rw [if_pos h2] at hR
            by_cases h32 : deep = 32
            · rw [if_pos h32] at hR
              simp [h2, h32, near hfl hxs, hx, Rd.enc, encToks, encT]
              refine callM_of (hf _ _ _ ⟨t :: r, 0, p⟩ 140 t.pos hfl (by simp [pinned hp]) (by simp [near hfl hxs, hx, Rd.enc, encToks, encT, h2])) ?_
              simp [near hfl hxs, pinned hp]
              simpa [Rd.fail, encNs] using hR true [] ⟨t :: r, 140, t.pos⟩ (by simp [Fin] at hblt ⊢; omega)
            · rw [if_neg h32] at hR
              have h32' : ¬ ((deep : Int) = 32) := by omega
              have hwr : IntKind.i64.wrap ((deep : Int) + 1) = ((deep + 1 : Nat) : Int) := wrap_i64 (by omega) (by omega)
              simp [h2, h32, h32', near hfl hxs]
              refine callM_of (hn _ _ _ ⟨t :: r, 0, p⟩ (by simp [near hfl hxs]) (by simp [near hfl hxs, hx])) ?_
              simp [h2, near hfl hxs]
              refine callM_of (ho _ _ _ ⟨t :: r, 0, p⟩ t r hfl (by simp [pinned hp]) (by simp [near hfl hxs, hx]) rfl) ?_
              simp [near hfl hxs, encT, hwr, encP]
              refine callM_ex2 (hl _ _ _ ⟨r, 0, p⟩ (deep + 1) t.pos hfl (by simp [pinned hp]) (by simp [near hfl hxs, hx]) rfl (fun u hu => hk u (hsuf.subset (by simp at hu ⊢; exact .inr hu))) (by omega) (by simp at hblt hN ⊢; omega) (by simp at hblt hb ⊢; omega)) ?_
              intro a r' hfin
              simp [near hfl hxs, pinned hp]
              cases hq : pL (deep + 1) t.pos r with
              | ok b rest =>
                rw [hq] at hR hfin
                simp only [Fin] at hfin
                obtain ⟨rfl, rfl⟩ := hfin
                simpa [encNs, encN, Function.comp_def] using hR true [.mk ((wordsOf (t0 :: r0)).map (·.text)) ((wordsOf (t0 :: r0)).map (·.pos)) true a] ⟨rest, 0, p⟩ (by simp [Fin])
              | err pp ee =>
                rw [hq] at hR hfin
                simp only [Fin] at hfin
                simpa [encNs, encN, Function.comp_def] using hR true [.mk ((wordsOf (t0 :: r0)).map (·.text)) ((wordsOf (t0 :: r0)).map (·.pos)) true a] r' (by simp [Fin] at hblt hfin ⊢; exact ⟨hfin.1, hfin.2.1, by omega⟩)
          · rw [if_neg h2] at hR
            have h2' : ¬ ((t.kind : Int) = 2) := by omega
            simp [h2, h2', near hfl hxs]
            refine callM_of (hn _ _ _ ⟨t :: r, 0, p⟩ (by simp [near hfl hxs]) (by simp [near hfl hxs, hx])) ?_
            simp [h2, h2', near hfl hxs, hx, Rd.enc, encToks, encT]
            refine callM_of (hf _ _ _ ⟨t :: r, 0, p⟩ 130 t.pos hfl (by simp [pinned hp]) (by simp [near hfl hxs, hx, Rd.enc, encToks, encT])) ?_
            simp [near hfl hxs, pinned hp]
            simpa [Rd.fail, encNs] using hR true [] ⟨t :: r, 130, t.pos⟩ (by simp [Fin] at hblt ⊢; omega)
  obtain ⟨v, σ', ⟨bb, a, r', h1, rfl, rfl⟩, h2⟩ := h (fun v σ' => ∃ bb a r', Fin (pS deep (t0 :: r0)) ⟨t0 :: r0, 0, p⟩ a r' ∧ v = .vec bb (encNs a) ∧ σ' = σ.put x (.cells r'.enc)) (fun bb a r' h => ⟨bb, a, r', h, rfl, rfl⟩)
  exact ⟨bb, a, r', h1, h2⟩

theorem list_stmt {fw fn fo fc fp ff fli fst : Nat} (hw : S_words P K X fw) (hn : S_next P K X fn) (ho : S_off P K X fo) (hc : S_clone P K X fc 1) (hcp : S_clone P K X fp 2) (hf : S_fail P K X ff)
    (Hs : Has P K fst false (c_tree_reader_statement fw fn fo fc fp ff fli)) (Hl : Has P K fli false (c_tree_reader_list fn ff fo fst)) : ∀ N, S_listN P K X fli N ∧ S_stmtN P K X fst (N + 1)
  | 0 => by
    have h0 : S_stmtN P K X fst 0 := by
      intro fl σ x r deep t0 r0 _ _ _ _ hr _ _ _ hN
      rw [hr] at hN
      simp at hN
    have hl := list_okN hn hf ho h0 Hl
    exact ⟨hl, stmt_okN hw hn ho hc hcp hf hl Hs⟩
  | N + 1 => by
    have ih := list_stmt hw hn ho hc hcp hf Hs Hl N
    have hl := list_okN hn hf ho ih.2 Hl
    exact ⟨hl, stmt_okN hw hn ho hc hcp hf hl Hs⟩
def S_list (P : Program) (K : Knobs) (X : ExtV) (f : Nat) : Prop := ∀ N, S_listN P K X f N
end Go.Vw.Wm
end
section
/- The walk of tree.Parse. -/
namespace Go.Vw.Wm
open Go Go.RowKit Go.Abs Go.Vw Lx Tr
set_option maxRecDepth 20000
set_option linter.unusedSimpArgs false
set_option linter.unusedVariables false
variable {P : Program} {K : Knobs} {X : ExtV}

theorem tok1_kind {c : UInt8} {t : Str} {kd : Nat} {tx : Str} {k : Nat} (h : tok1 (c :: t) = .tok kd tx k) : kd ≠ 0 := by
  unfold tok1 at h
  simp only at h
  repeat' split at h
  all_goals first
    | (cases h; done)
    | (simp only [T1.tok.injEq] at h; obtain ⟨rfl, _, _⟩ := h; first | assumption | omega)
theorem toks_kinds : ∀ (m : Nat) (l : Str) (p : Pos) (ts : List Tok), l.length ≤ m → toks p l = .ok ts → kinds ts ∧ ts.length ≤ l.length
  | 0, l, p, ts, hm, h => by
    have : l = [] := List.eq_nil_of_length_eq_zero (Nat.le_zero.1 hm)
    subst this
    rw [toks_nil] at h
    cases h
    exact ⟨fun t ht => (by cases ht), (by simp)⟩
  | m + 1, [], p, ts, hm, h => by
    rw [toks_nil] at h
    cases h
    exact ⟨fun t ht => (by cases ht), (by simp)⟩
  | m + 1, c :: t, p, ts, hm, h => by
    rw [toks_cons] at h
    have htook := tok1_took c t
    cases h1 : tok1 (c :: t) with
    | bad => rw [h1] at h; cases h
    | skip j =>
      rw [h1] at h htook
      simp only [T1.took] at htook
      have := toks_kinds m _ _ ts (by simp at hm htook ⊢; omega) h
      exact ⟨this.1, by have := this.2; simp at this ⊢; omega⟩
    | tok kd tx j =>
      rw [h1] at h htook
      simp only [T1.took] at htook
      simp only at h
      cases hr : toks (advs p ((c :: t).take j)) ((c :: t).drop j) with
      | err q e => rw [hr] at h; cases h
      | ok r =>
        rw [hr] at h
        simp only [Res.push, Res.ok.injEq] at h
        subst h
        have := toks_kinds m _ _ r (by simp at hm htook ⊢; omega) hr
        refine ⟨fun u hu => ?_, by have := this.2; simp at this htook ⊢; omega⟩
        rcases List.mem_cons.1 hu with rfl | hu
        · exact tok1_kind h1
        · exact this.1 u hu
theorem toks_err : ∀ (m : Nat) (l : Str) (p q : Pos) (e : Int), l.length ≤ m → toks p l = .err q e → e ≠ 0
  | 0, l, p, q, e, hm, h => by
    have : l = [] := List.eq_nil_of_length_eq_zero (Nat.le_zero.1 hm)
    subst this
    rw [toks_nil] at h
    cases h
  | m + 1, [], p, q, e, hm, h => by
    rw [toks_nil] at h
    cases h
  | m + 1, c :: t, p, q, e, hm, h => by
    rw [toks_cons] at h
    have htook := tok1_took c t
    cases h1 : tok1 (c :: t) with
    | bad =>
      rw [h1] at h
      simp only [Res.err.injEq] at h
      omega
    | skip j =>
      rw [h1] at h htook
      simp only [T1.took] at htook
      exact toks_err m _ _ q e (by simp at hm htook ⊢; omega) h
    | tok kd tx j =>
      rw [h1] at h htook
      simp only [T1.took] at htook
      simp only at h
      cases hr : toks (advs p ((c :: t).take j)) ((c :: t).drop j) with
      | err q2 e2 =>
        rw [hr] at h
        simp only [Res.push, Res.err.injEq] at h
        rw [← h.2]
        exact toks_err m _ _ q2 e2 (by simp at hm htook ⊢; omega) hr
      | ok r => rw [hr] at h; cases h
theorem tokens_err {s : Str} {p : Pos} {e : Int} (h : tokens s = .err p e) : e ≠ 0 := by
  unfold tokens at h
  cases hck : Lx.check s with
  | mk p2 e2 =>
    rw [hck] at h
    simp only at h
    split at h
    · exact toks_err s.length s _ p e (Nat.le_refl _) h
    · rename_i he
      simp only [Res.err.injEq] at h
      rw [← h.2]
      exact he
def parseOut : Res (List Node) → V
  | .ok ns => .tuple [.vec false (encNs ns), .agg (encP ⟨0, 0⟩), .int .i64 0]
  | .err p e => .tuple [.vec false [], .agg (encP p), .int .i64 e]
def S_Parse (P : Program) (K : Knobs) (X : ExtV) (f : Nat) : Prop := ∀ (fl : Nat) (σ : St) (s : Str), fl ≤ σ.size → σ.pin ≤ σ.size →
    Big P K X (.call fl f [.str s] σ (parseOut (parse s)) σ)
theorem tokens_ok {s : Str} {ts : List Tok} (h : tokens s = .ok ts) : kinds ts ∧ ts.length ≤ 65536 := by
  unfold tokens at h
  cases hck : Lx.check s with
  | mk p e =>
    rw [hck] at h
    simp only at h
    split at h
    · rename_i he
      have hz := check_zero (s := s) (by rw [hck]; exact he)
      have := toks_kinds s.length s _ ts (Nat.le_refl _) h
      exact ⟨this.1, by have := this.2; have := hz.2; omega⟩
    · cases h
theorem Parse_ok {f ft fli : Nat} (ht : S_Tokens P K X ft) (hl : S_list P K X fli) (H : Has P K f false (c_tree_Parse ft fli)) : S_Parse P K X f := by
  intro fl σ s hfl hp
  have h : ∀ (R : V → St → Prop), R (parseOut (parse s)) σ → ∃ v σ', R v σ' ∧ Big P K X (.call fl f [.str s] σ v σ') := by
    intro R hR
    refine H_callE H (Nat.le_of_ble_eq_true rfl) ?_
    simp [c_tree_Parse]
    refine callM_of (ht _ _ s (by simp [nearq hfl]) (by simp [pinned hp])) ?_
    unfold parse at hR
    cases hts : tokens s with
    | err p e =>
      rw [hts] at hR
      have he := tokens_err hts
      simp [tokensOut, encP, nearq hfl, pinned hp, he]
      simpa [parseOut, encP] using hR
    | ok ts =>
      rw [hts] at hR
      simp only [parseToks_eq] at hR
      obtain ⟨hk, hlen⟩ := tokens_ok hts
      simp [tokensOut, encP, nearq hfl, pinned hp]
      refine callM_ex2 (hl ts.length _ _ (σ.size + 1 + 1) ⟨ts, 0, ⟨0, 0⟩⟩ 0 ⟨0, 0⟩ (by simp [nearq hfl]) (by simp [pinned hp]) (by simp [Rd.enc, encToks, encP]) rfl hk (by omega) (Nat.le_refl _) (by simp; omega)) ?_
      intro a r' hfin
      have hg := pL_good ts 0 ⟨0, 0⟩
      cases hq : pL 0 ⟨0, 0⟩ ts with
      | ok b rest =>
        rw [hq] at hR hfin
        simp only [Fin] at hfin
        obtain ⟨rfl, rfl⟩ := hfin
        simp [nearq hfl, pinned hp, Rd.enc, encP, encToks]
        simpa [parseOut, encP] using hR
      | err pp ee =>
        rw [hq] at hR hfin hg
        simp only [Fin] at hfin
        have he : ¬ r'.err = 0 := by rw [hfin.1]; exact hg
        simp [nearq hfl, pinned hp, Rd.enc, encP, encToks, he]
        simpa [parseOut, encP, hfin.1, hfin.2.1] using hR
  obtain ⟨v, σ', ⟨rfl, rfl⟩, h2⟩ := h (fun v σ' => v = parseOut (parse s) ∧ σ' = σ) ⟨rfl, rfl⟩
  exact h2
end Go.Vw.Wm
end
section
/- An evaluator for closed calls, its registers in a tree. -/
namespace Go.Abs
open Go Go.RowKit
variable {P : Program}

def regT (e : T AV) (t : Nat) : AV := match e.get t with | some v => v | none => .undef
def putT (e : T AV) (d : Nat) (v : AV) : T AV := T.put (d + 1) e d (some v)
def evalT (e : T AV) : Operand → AV
  | .tmp t => regT e t
  | x => evalO [] x
theorem regT_put (e : T AV) (d : Nat) (v : AV) (t : Nat) : regT (putT e d v) t = if t = d then v else regT e t := by
  unfold regT putT
  rw [T.get_put _ _ _ _ _ (Nat.lt_succ_self d)]
  by_cases h : t = d
  · rw [if_pos h, if_pos h]
  · rw [if_neg h, if_neg h]
/-- The same registers. -/
structure Same (n : Nat) (α : List AV) (e : T AV) : Prop where
  len : α.length = n
  at_ : ∀ t, α.getD t .undef = regT e t
theorem Same.eval {n : Nat} {α : List AV} {e : T AV} (h : Same n α e) (x : Operand) : evalO α x = evalT e x := by
  cases x with
  | tmp t => exact h.at_ t
  | _ => rfl
theorem Same.evals {n : Nat} {α : List AV} {e : T AV} (h : Same n α e) : evalO α = evalT e := funext h.eval
theorem Same.set {n : Nat} {α : List AV} {e : T AV} (h : Same n α e) {d : Nat} (hd : d < n) (v : AV) : Same n (α.set d v) (putT e d v) := by
  refine ⟨by simp [h.len], fun t => ?_⟩
  rw [regT_put, ← h.at_ t]
  simp only [List.getD_eq_getElem?_getD, List.getElem?_set]
  by_cases ht : d = t
  · subst ht; simp [h.len, hd]
  · rw [if_neg ht, if_neg (fun e => ht e.symm)]

def setT (n : Nat) (e : T AV) (dst : Option Nat) (v : AV) : Option (T AV) := match dst with
  | some d => if d < n then some (putT e d v) else none
  | none => some e
theorem Same.setD {n : Nat} {α : List AV} {e e' : T AV} (h : Same n α e) {dst : Option Nat} {v : AV} (hs : setT n e dst v = some e') : Same n (setD α dst v) e' := by
  unfold setT at hs
  unfold Go.Abs.setD
  split at hs
  · split at hs
    · rename_i hd
      simp only [Option.some.injEq] at hs
      subst hs
      exact h.set hd v
    · cases hs
  · simp only [Option.some.injEq] at hs
    subst hs
    exact h
def yieldedT (ops : List Oper) (e : T AV) (j : Nat) : Option (Option Bool) :=
  match (ops[j]?).bind (·.dst) with
  | some d => match regT e d with | .bool b => some (some b) | .tuple [] => some none | _ => none
  | none => none
theorem Same.yielded {n : Nat} {α : List AV} {e : T AV} (h : Same n α e) {ops : List Oper} {j : Nat} {r : Option Bool} (hy : yieldedT ops e j = some r) : yieldedA ops α j = some r := by
  unfold yieldedT at hy
  unfold yieldedA
  split at hy
  · rename_i d hd
    rw [← h.at_ d] at hy
    simp only [List.getD_eq_getElem?_getD] at hy
    cases ha : α[d]? with
    | none => rw [ha] at hy; simp at hy
    | some v => rw [ha] at hy; simp only [Option.getD_some] at hy ⊢; split at hy <;> simp_all
  · cases hy
def goesT (ops : List Oper) (e : T AV) (o : Oper) : Option Bool :=
  match o.guard with
  | none => some true
  | some (j, want) => (yieldedT ops e j).map (· == some want)
theorem Same.goes {n : Nat} {α : List AV} {e : T AV} (h : Same n α e) {ops : List Oper} {o : Oper} {b : Bool} (hg : goesT ops e o = some b) : goes ops α o = some b := by
  unfold goesT at hg
  unfold Go.Abs.goes
  cases ho : o.guard with
  | none => rw [ho] at hg; exact hg
  | some q =>
    obtain ⟨j, want⟩ := q
    rw [ho] at hg
    simp only [Option.map_eq_some_iff] at hg
    obtain ⟨r, h1, h2⟩ := hg
    simp only [h.yielded h1, Option.map_some, h2]

/-- What a read saw. -/
structure TrT where
  H : AH
  ran : Bool
  v : AV
  ad : AV
def adOf (ev : Operand → AV) (o : Oper) : AV := match o.op with
  | .load _ a => ev a
  | _ => .undef
def traceT (P : Program) (n : Nat) (call : CallF) (ops : List Oper) : List Oper → T AV → AH → Option (List TrT × T AV × AH)
  | [], e, H => some ([], e, H)
  | o :: rest, e, H =>
    match goesT ops e o with
    | none => none
    | some true =>
      match evOpE P call (evalT e) o.op H with
      | some (v, H2) => match setT n e o.dst v with
        | some e2 => match traceT P n call ops rest e2 H2 with
          | some (l, e', H') => some (⟨H, true, v, adOf (evalT e) o⟩ :: l, e', H')
          | none => none
        | none => none
      | none => none
    | some false => match setT n e o.dst (.tuple []) with
      | some e2 => match traceT P n call ops rest e2 H with
        | some (l, e', H') => some (⟨H, false, .tuple [], adOf (evalT e) o⟩ :: l, e', H')
        | none => none
      | none => none
def shadow : List Oper → List Tr → List TrT
  | o :: rest, r :: tr => ⟨r.H, r.ran, r.v, adOf (evalO r.α) o⟩ :: shadow rest tr
  | _, _ => []
theorem shadow_get : ∀ (rest : List Oper) (tr : List Tr) (i : Nat), (shadow rest tr)[i]? = (match rest[i]?, tr[i]? with | some o, some r => some ⟨r.H, r.ran, r.v, adOf (evalO r.α) o⟩ | _, _ => none)
  | [], tr, i => by simp [shadow]
  | o :: rest, [], i => by cases h : (o :: rest)[i]? <;> simp [shadow]
  | o :: rest, r :: tr, 0 => by simp [shadow]
  | o :: rest, r :: tr, i + 1 => by simpa [shadow] using shadow_get rest tr i
theorem traceT_eq {n : Nat} {c c' : CallF} (hc : CallLe c c') {ops : List Oper} : ∀ (rest : List Oper) (α : List AV) (e : T AV) (H : AH) (l : List TrT) (e' : T AV) (H' : AH), Same n α e → traceT P n c ops rest e H = some (l, e', H') →
    ∃ tr α', trace P c' ops rest α H = some (tr, α', H') ∧ shadow rest tr = l ∧ tr.length = rest.length ∧ Same n α' e'
  | [], α, e, H, l, e', H', hs, h => by
    simp only [traceT, Option.some.injEq, Prod.mk.injEq] at h
    obtain ⟨rfl, rfl, rfl⟩ := h
    exact ⟨[], α, rfl, rfl, rfl, hs⟩
  | o :: rest, α, e, H, l, e', H', hs, h => by
    simp only [traceT] at h
    split at h
    · cases h
    · rename_i hg
      split at h
      · rename_i v H2 ho
        split at h
        · rename_i e2 he2
          split at h
          · rename_i l2 e3 H3 ht
            simp only [Option.some.injEq, Prod.mk.injEq] at h
            obtain ⟨rfl, rfl, rfl⟩ := h
            obtain ⟨tr, α', k1, k2, k3, k4⟩ := traceT_eq hc rest _ _ _ _ _ _ (hs.setD he2) ht
            refine ⟨⟨α, H, true, v⟩ :: tr, α', ?_, by simp only [shadow, hs.evals, k2], by simp [k3], k4⟩
            rw [← hs.evals] at ho
            have ho' : evOp P c' α o.op H = some (v, H2) := evOp_le hc ho
            simp only [trace, hs.goes hg, ho', k1]
          · cases h
        · cases h
      · cases h
    · rename_i hg
      split at h
      · rename_i e2 he2
        split at h
        · rename_i l2 e3 H3 ht
          simp only [Option.some.injEq, Prod.mk.injEq] at h
          obtain ⟨rfl, rfl, rfl⟩ := h
          obtain ⟨tr, α', k1, k2, k3, k4⟩ := traceT_eq hc rest _ _ _ _ _ _ (hs.setD he2) ht
          refine ⟨⟨α, H, false, .tuple []⟩ :: tr, α', ?_, by simp only [shadow, hs.evals, k2], by simp [k3], k4⟩
          simp only [trace, hs.goes hg, k1]
        · cases h
      · cases h
def heapT (tr : List TrT) (H' : AH) (i : Nat) : AH := match tr[i]? with | some r => r.H | none => H'
def readT (P : Program) (ops : List Oper) (A : List Nat) (tr : List TrT) (H0 H' : AH) (j : Nat) (t : TypeId) (b off : Nat) (v : AV) : Bool :=
  decide (b < (heapT tr H' j).next) &&
  ((List.range j).all fun i => match ops[i]? with
    | none => true
    | some x => !(decide (2 ≤ cls P x.op)) || ahead A i j || (decide (b < H0.next) && (!(cls P x.op == 3) || loadAt P (heapT tr H' i) t b off v))) &&
  ((List.range ops.length).all fun k => match ops[k]? with
    | none => true
    | some x => !(decide (j < k) && cls P x.op == 3) || ahead A j k || loadAt P (heapT tr H' (k + 1)) t b off v)
def readsT (P : Program) (ops : List Oper) (tr : List TrT) (H0 H' : AH) : Bool :=
  (List.range ops.length).all fun j => match ops[j]?, tr[j]? with
    | some y, some r => match y.op with
      | .load t _ => !r.ran || (match r.ad with
        | .ptr b off => readT P ops (ancs ops) tr H0 H' j t b off r.v
        | _ => false)
      | _ => true
    | _, _ => true
theorem heapT_eq {ops : List Oper} {tr : List Tr} (hl : tr.length = ops.length) (H' : AH) (i : Nat) : heapT (shadow ops tr) H' i = heapAt tr H' i := by
  unfold heapT heapAt
  rw [shadow_get]
  cases ho : ops[i]? with
  | none =>
    have : tr[i]? = none := by rw [List.getElem?_eq_none_iff] at ho ⊢; omega
    rw [this]
  | some o =>
    cases ht : tr[i]? with
    | none => rfl
    | some r => rfl
theorem readsT_eq {ops : List Oper} {tr : List Tr} (hl : tr.length = ops.length) (H0 H' : AH) : readsT P ops (shadow ops tr) H0 H' = readsOK P ops tr H0 H' := by
  unfold readsT readsOK
  congr 1
  funext j
  rw [shadow_get]
  cases ho : ops[j]? with
  | none => rfl
  | some y =>
    cases ht : tr[j]? with
    | none => rfl
    | some r =>
      obtain ⟨g, op, d⟩ := y
      cases op with
      | load t a =>
        simp only [adOf]
        congr 1
        cases evalO r.α a with
        | ptr b off =>
          simp only [readT, readOK, heapT_eq hl]
          rfl
        | _ => rfl
      | _ => rfl
def evDrawT (P : Program) (n : Nat) (call : CallF) (ops : List Oper) (e : T AV) (H : AH) : Option (T AV × AH) :=
  match traceT P n call ops ops e H with
  | some (tr, e', H') => if staticOK P ops n = true then (if readsT P ops tr H H' = true then some (e', H') else none) else none
  | none => none
def evOpsT (P : Program) (n : Nat) (call : CallF) (ops : List Oper) : List Oper → T AV → AH → Option (T AV × AH)
  | [], e, H => some (e, H)
  | o :: rest, e, H =>
    match o.guard with
    | some (j, want) =>
      match yieldedT ops e j with
      | some b =>
        if b = some want then
          match evOpE P call (evalT e) o.op H with
          | some (v, H) => match setT n e o.dst v with
            | some e => evOpsT P n call ops rest e H
            | none => none
          | none => none
        else match setT n e o.dst (.tuple []) with
          | some e => evOpsT P n call ops rest e H
          | none => none
      | none => none
    | none =>
      match evOpE P call (evalT e) o.op H with
      | some (v, H) => match setT n e o.dst v with
        | some e => evOpsT P n call ops rest e H
        | none => none
      | none => none
def evCodeT (P : Program) (m : Nat) (call : CallF) : Nat → Code → T AV → AH → Option (Ex × T AV × AH)
  | 0, _, _, _ => none
  | n + 1, c, e, H =>
    match c with
    | .skip => some (.normal, e, H)
    | .region _ ops free =>
      match (if free = true then evDrawT P m call ops.toList e H else evOpsT P m call ops.toList ops.toList e H) with
      | some (e, H) => some (.normal, e, H)
      | none => none
    | .seq x y => match evCodeT P m call n x e H with
      | some (.normal, e, H) => evCodeT P m call n y e H
      | r => r
    | .cond c x y => match evalT e c with
      | .bool t => evCodeT P m call n (if t then x else y) e H
      | _ => none
    | .block id c => match evCodeT P m call n c e H with
      | some (.exit k, e, H) => some (if k = id then .normal else .exit k, e, H)
      | r => r
    | .loop c => match evCodeT P m call n c e H with
      | some (.normal, e, H) => evCodeT P m call n (.loop c) e H
      | r => r
    | .exit id => some (.exit id, e, H)
    | .ret => some (.ret, e, H)
    | _ => none
def resT (P : Program) (H : AH) (e : T AV) : ResultVar → Option AV
  | .tmp t => some (regT e t)
  | .cell a t => match regT e a with
    | .ptr b off => loadA P t H b off
    | _ => none
def ofArgs : Nat → List AV → T AV → T AV
  | _, [], e => e
  | i, v :: l, e => ofArgs (i + 1) l (putT e i v)
def evCallT (P : Program) (ext : Nat → Option (List AV → AH → Option (AV × AH))) : Nat → CallF
  | 0, _, _, _ => none
  | n + 1, f, args, H =>
    match ext f with
    | some c => c args H
    | none =>
      match P.funcs[f]? with
      | some fn =>
        match fn.body with
        | some c =>
          if args.length ≤ fn.ntmps then
            match evCodeT P fn.ntmps (evCallT P ext n) n c (ofArgs 0 args .leaf) H with
            | some (.exit _, _, _) => none
            | some (_, e, H) =>
              match allA (resT P H e) fn.results.toList with
              | some l => some (oneOrAll l, H)
              | none => none
            | none => none
          else none
        | none => none
      | none => none

theorem evDrawT_eq {n : Nat} {c c' : CallF} (hc : CallLe c c') {ops : List Oper} {α : List AV} {e e' : T AV} {H H' : AH} (hs : Same n α e) (h : evDrawT P n c ops e H = some (e', H')) : ∃ α', evDraw P c' ops α H = some (α', H') ∧ Same n α' e' := by
  unfold evDrawT at h
  split at h
  · rename_i h1
    split at h
    · rename_i h2
      split at h
      · rename_i h3
        simp only [Option.some.injEq, Prod.mk.injEq] at h
        obtain ⟨rfl, rfl⟩ := h
        obtain ⟨tr, α', k1, rfl, k3, k4⟩ := traceT_eq hc ops _ _ _ _ _ _ hs h1
        rw [readsT_eq k3] at h3
        refine ⟨α', ?_, k4⟩
        unfold evDraw
        rw [k1]
        simp only
        rw [if_pos ⟨by rw [hs.len]; exact h2, h3⟩]
      · cases h
    · cases h
  · cases h
theorem evOpsT_eq {n : Nat} {c c' : CallF} (hc : CallLe c c') {ops : List Oper} : ∀ (rest : List Oper) (α : List AV) (e : T AV) (H : AH) (e' : T AV) (H' : AH), Same n α e → evOpsT P n c ops rest e H = some (e', H') → ∃ α', evOps P c' ops rest α H = some (α', H') ∧ Same n α' e'
  | [], α, e, H, e', H', hs, h => by
    simp only [evOpsT, Option.some.injEq, Prod.mk.injEq] at h
    obtain ⟨rfl, rfl⟩ := h
    exact ⟨α, rfl, hs⟩
  | o :: rest, α, e, H, e', H', hs, h => by
    have run : ∀ {v : AV} {H2 : AH} {e2 : T AV}, setT n e o.dst v = some e2 → evOpsT P n c ops rest e2 H2 = some (e', H') → ∃ α', evOps P c' ops rest (match o.dst with | some d => α.set d v | none => α) H2 = some (α', H') ∧ Same n α' e' :=
      fun h1 h2 => evOpsT_eq hc rest _ _ _ _ _ (hs.setD h1) h2
    simp only [evOpsT] at h
    simp only [evOps]
    cases hg : o.guard with
    | some q =>
      obtain ⟨j, want⟩ := q
      rw [hg] at h
      simp only at h ⊢
      split at h
      · rename_i b hy
        rw [hs.yielded hy]
        simp only
        split at h
        · rename_i hb
          rw [if_pos hb]
          split at h
          · rename_i v H2 ho
            rw [← hs.evals] at ho
            have ho' : evOp P c' α o.op H = some (v, H2) := evOp_le hc ho
            rw [ho']
            split at h
            · rename_i e2 he2
              exact run he2 h
            · cases h
          · cases h
        · rename_i hb
          rw [if_neg hb]
          split at h
          · rename_i e2 he2
            exact run he2 h
          · cases h
      · cases h
    | none =>
      rw [hg] at h
      simp only at h ⊢
      split at h
      · rename_i v H2 ho
        rw [← hs.evals] at ho
        have ho' : evOp P c' α o.op H = some (v, H2) := evOp_le hc ho
        rw [ho']
        split at h
        · rename_i e2 he2
          exact run he2 h
        · cases h
      · cases h
theorem evCodeT_eq {m : Nat} {c c' : CallF} (hc : CallLe c c') : ∀ (n : Nat) (k : Code) (α : List AV) (e : T AV) (H : AH) (ex : Ex) (e' : T AV) (H' : AH), Same m α e → evCodeT P m c n k e H = some (ex, e', H') → ∃ α', evCode P c' (evDraw P) n k α H = some (ex, α', H') ∧ Same m α' e'
  | 0, k, α, e, H, ex, e', H', _, h => by simp [evCodeT] at h
  | n + 1, k, α, e, H, ex, e', H', hs, h => by
    cases k with
    | region id ops free =>
      simp only [evCodeT] at h
      simp only [evCode]
      split at h
      · rename_i e2 H2 hq
        simp only [Option.some.injEq, Prod.mk.injEq] at h
        obtain ⟨rfl, rfl, rfl⟩ := h
        split at hq
        · rename_i hf
          obtain ⟨α', k1, k2⟩ := evDrawT_eq hc hs hq
          exact ⟨α', by rw [if_pos hf, k1]; rfl, k2⟩
        · rename_i hf
          obtain ⟨α', k1, k2⟩ := evOpsT_eq hc _ _ _ _ _ _ hs hq
          exact ⟨α', by rw [if_neg hf, k1]; rfl, k2⟩
      · cases h
    | seq a b =>
      simp only [evCodeT] at h
      simp only [evCode]
      cases hx : evCodeT P m c n a e H with
      | none => rw [hx] at h; cases h
      | some q =>
        obtain ⟨ex1, e1, H1⟩ := q
        rw [hx] at h
        obtain ⟨α1, k1, k2⟩ := evCodeT_eq hc n _ _ _ _ _ _ _ hs hx
        rw [k1]
        cases ex1 with
        | normal => exact evCodeT_eq hc n _ _ _ _ _ _ _ k2 h
        | _ => simp only [Option.some.injEq, Prod.mk.injEq] at h; obtain ⟨rfl, rfl, rfl⟩ := h; exact ⟨α1, rfl, k2⟩
    | cond o a b =>
      simp only [evCodeT] at h
      simp only [evCode, hs.eval]
      split at h
      · rename_i t ht
        simp only [ht]
        exact evCodeT_eq hc n _ _ _ _ _ _ _ hs h
      · cases h
    | block id a =>
      simp only [evCodeT] at h
      simp only [evCode]
      cases hx : evCodeT P m c n a e H with
      | none => rw [hx] at h; cases h
      | some q =>
        obtain ⟨ex1, e1, H1⟩ := q
        rw [hx] at h
        obtain ⟨α1, k1, k2⟩ := evCodeT_eq hc n _ _ _ _ _ _ _ hs hx
        rw [k1]
        cases ex1 <;> (simp only [Option.some.injEq, Prod.mk.injEq] at h; obtain ⟨rfl, rfl, rfl⟩ := h; exact ⟨α1, rfl, k2⟩)
    | loop a =>
      simp only [evCodeT] at h
      simp only [evCode]
      cases hx : evCodeT P m c n a e H with
      | none => rw [hx] at h; cases h
      | some q =>
        obtain ⟨ex1, e1, H1⟩ := q
        rw [hx] at h
        obtain ⟨α1, k1, k2⟩ := evCodeT_eq hc n _ _ _ _ _ _ _ hs hx
        rw [k1]
        cases ex1 with
        | normal => exact evCodeT_eq hc n _ _ _ _ _ _ _ k2 h
        | _ => simp only [Option.some.injEq, Prod.mk.injEq] at h; obtain ⟨rfl, rfl, rfl⟩ := h; exact ⟨α1, rfl, k2⟩
    | skip => simp only [evCodeT, Option.some.injEq, Prod.mk.injEq] at h; obtain ⟨rfl, rfl, rfl⟩ := h; exact ⟨α, rfl, hs⟩
    | exit id => simp only [evCodeT, Option.some.injEq, Prod.mk.injEq] at h; obtain ⟨rfl, rfl, rfl⟩ := h; exact ⟨α, rfl, hs⟩
    | ret => simp only [evCodeT, Option.some.injEq, Prod.mk.injEq] at h; obtain ⟨rfl, rfl, rfl⟩ := h; exact ⟨α, rfl, hs⟩
    | _ => simp [evCodeT] at h
theorem ofArgs_at : ∀ (l : List AV) (i : Nat) (e : T AV) (t : Nat), regT (ofArgs i l e) t = if i ≤ t ∧ t < i + l.length then l.getD (t - i) .undef else regT e t
  | [], i, e, t => by rw [if_neg (by simp only [List.length_nil]; omega)]; rfl
  | v :: l, i, e, t => by
    rw [ofArgs, ofArgs_at l (i + 1), regT_put]
    by_cases h : t = i
    · subst h
      rw [if_neg (by omega), if_pos rfl, if_pos (by simp)]
      simp
    · by_cases h2 : i + 1 ≤ t ∧ t < i + 1 + l.length
      · rw [if_pos h2, if_pos (by simp; omega)]
        rw [show t - i = (t - (i + 1)) + 1 by omega]
        simp
      · rw [if_neg h2, if_neg h, if_neg (by simp; omega)]
theorem Same.args {n : Nat} {args : List AV} (h : args.length ≤ n) : Same n (args ++ List.replicate (n - args.length) .undef) (ofArgs 0 args .leaf) := by
  refine ⟨by simp; omega, fun t => ?_⟩
  rw [ofArgs_at]
  simp only [List.getD_eq_getElem?_getD, Nat.zero_le, true_and, Nat.zero_add, Nat.sub_zero]
  by_cases ht : t < args.length
  · rw [if_pos ht, List.getElem?_append_left ht]
  · rw [if_neg ht, List.getElem?_append_right (by omega), List.getElem?_replicate]
    show _ = AV.undef
    split <;> rfl
theorem allA_eq {β γ : Type} {f g : β → Option γ} (h : ∀ x, f x = g x) (l : List β) : allA f l = allA g l := by rw [show f = g from funext h]
theorem Same.res {n : Nat} {α : List AV} {e : T AV} (h : Same n α e) (H : AH) (r : ResultVar) : resA P H α r = resT P H e r := by
  cases r with
  | tmp t => simp only [resA, resT, h.at_]
  | cell a t => simp only [resA, resT, h.at_]; rfl
theorem evCallT_le {ext : Nat → Option (List AV → AH → Option (AV × AH))} : ∀ n, CallLe (evCallT P ext n) (evCall P ext (evDraw P) n)
  | 0 => fun f args H r h => by simp [evCallT] at h
  | n + 1 => by
    have ih : CallLe (evCallT P ext n) (evCall P ext (evDraw P) n) := evCallT_le n
    intro f args H r h
    rw [evCallT] at h
    rw [evCall]
    cases he : ext f with
    | some c => rw [he] at h; exact h
    | none =>
      rw [he] at h
      simp only at h ⊢
      cases hf : P.funcs[f]? with
      | none => rw [hf] at h; cases h
      | some fn =>
        rw [hf] at h
        simp only at h ⊢
        cases hb : fn.body with
        | none => rw [hb] at h; cases h
        | some c =>
          rw [hb] at h
          simp only at h ⊢
          split at h
          · rename_i hl
            cases hc : evCodeT P fn.ntmps (evCallT P ext n) n c (ofArgs 0 args .leaf) H with
            | none => rw [hc] at h; cases h
            | some q =>
              obtain ⟨ex, e, H1⟩ := q
              rw [hc] at h
              obtain ⟨α, k1, k2⟩ := evCodeT_eq ih n _ _ _ _ _ _ _ (Same.args hl) hc
              rw [k1]
              cases ex with
              | exit i => cases h
              | _ => simp only [← allA_eq (k2.res H1)] at h; exact h
          · cases h
end Go.Abs
end
section
/- The walks of TreeBack's own functions: Equal, Same, wide. -/
namespace Go.Vw.Wm
open Go Go.RowKit Go.Abs Go.Vw Lx Tr
set_option maxRecDepth 20000
set_option linter.unusedSimpArgs false
set_option linter.unusedVariables false
variable {P : Program} {K : Knobs} {X : ExtV}

def S_Equal (P : Program) (K : Knobs) (X : ExtV) (f : Nat) : Prop := ∀ (fl : Nat) (σ : St) (a b : List Str), fl ≤ σ.size → σ.pin ≤ σ.size → a.length ≤ 16777216 →
    Big P K X (.call fl f [.vec false (a.map wordCell), .vec false (b.map wordCell)] σ (.bool (a == b)) σ)
section
variable {wm : TypeId → Bool} {n fl : Nat} {Q : Ex → VEnv → St → Prop} {k : List Lf} {σ : St} {a b : List Str}
theorem equal_loop (hp : σ.pin ≤ σ.size) (hab : a.length = b.length) (hb : a.length ≤ 16777216)
    (hE : ∀ ρ', a = b → contM P K X wm n fl true Q k (.exit 0) ρ' σ)
    (hR : ∀ ρ', ¬ a = b → ρ' 4 = .bool false → contM P K X wm n fl true Q k .ret ρ' σ) :
    ∀ (r s pre : List Str) (ρ : VEnv), a = pre ++ r → b = pre ++ s → ρ 0 = .vec false (a.map wordCell) → ρ 1 = .vec false (b.map wordCell) → ρ 12 = .int .i64 a.length → ρ 13 = .int .i64 pre.length →
      loopM P K X wm n fl true Q l_slices_Equal_string_0 k ρ σ := by
  intro r
  induction r with
  | nil =>
    intro s pre ρ hi hj r0 r1 r12 r13
    have hs : s = [] := by
      have := hab; rw [hi, hj] at this; simp at this; exact this
    subst hs
    rw [List.append_nil] at hi hj
    subst hi
    refine loopM_at l_slices_Equal_string_0.eq_1 ?_
    simp [r12, r13, pinned hp]
    exact hE _ hj.symm
  | cons w r ih =>
    intro s pre ρ hi hj r0 r1 r12 r13
    cases s with
    | nil => rw [hi, hj] at hab; simp at hab
    | cons v s =>
      have hlen : pre.length < a.length := by rw [hi]; simp
      have hlen2 : pre.length < b.length := by rw [hj]; simp
      have hlt : (pre.length : Int) < (a.length : Int) := by omega
      have ha : a[pre.length] = w := by
        have : a[pre.length]? = some w := by rw [hi]; simp
        rw [List.getElem?_eq_getElem hlen] at this
        exact Option.some.inj this
      have hbv : b[pre.length] = v := by
        have : b[pre.length]? = some v := by rw [hj]; simp
        rw [List.getElem?_eq_getElem hlen2] at this
        exact Option.some.inj this
      have hw : IntKind.i64.wrap ((pre.length : Int) + 1) = (pre.length : Int) + 1 := wrap_i64 (by omega) (by omega)
      refine loopM_at l_slices_Equal_string_0.eq_1 ?_
      by_cases hwv : w = v
      · subst hwv
        simp [r0, r1, r12, r13, pinned hp, hlen, hlen2, hlt, ha, hbv, hw, wordCell]
        refine ih s (pre ++ [w]) _ (by rw [hi]; simp) (by rw [hj]; simp) ?_ ?_ ?_ ?_
        all_goals simp [r0, r1, r12, wordCell]
      · have hne : ¬ a = b := by
          intro e; rw [hi, hj] at e; simp at e; exact hwv e.1
        have hbq : (w == v) = false := by simpa using hwv
        simp [r0, r1, r12, r13, pinned hp, hlen, hlen2, hlt, ha, hbv, hw, wordCell, hbq]
        refine hR _ hne ?_
        simp
end
theorem Equal_ok {f : Nat} {q : Bool} (H : Has P K f q c_slices_Equal_string) : S_Equal P K X f := by
  intro fl σ a b hfl hp ha
  refine H_callq H (Nat.le_of_ble_eq_true rfl) hfl fun fl' h1 h2 => ?_
  by_cases hab : a.length = b.length
  · simp [c_slices_Equal_string, hab]
    refine equal_loop (a := a) (b := b) hp hab ha ?_ ?_ a b [] _ rfl rfl ?_ ?_ ?_ ?_
    · intro ρ' e
      simp [e]
    · intro ρ' e h4
      simp [h4, e]
    all_goals simp [hab]
  · have : ¬ ((a.length : Int) = (b.length : Int)) := by omega
    have hne : ¬ a = b := fun e => hab (by rw [e])
    simp [c_slices_Equal_string, this, hne]
end Go.Vw.Wm
end
section
/- The walk of tree.Same. -/
namespace Go.Vw.Wm
open Go Go.RowKit Go.Abs Go.Vw Lx Tr
set_option maxRecDepth 20000
set_option linter.unusedSimpArgs false
set_option linter.unusedVariables false
variable {P : Program} {K : Knobs} {X : ExtV}

theorem sames_len : ∀ (a b : List Node), a.length ≠ b.length → Tr.sames a b = false
  | [], [], h => absurd rfl h
  | [], _ :: _, _ => by simp [Tr.sames]
  | _ :: _, [], _ => by simp [Tr.sames]
  | x :: a, y :: b, h => by
    have := sames_len a b (by simpa using h)
    simp [Tr.sames, this]
section
variable {wm : TypeId → Bool} {n fl : Nat} {Q : Ex → VEnv → St → Prop} {k : List Lf} {σ : St} {a b : List Node} {g : Nat}
theorem same_loop (hfl : fl ≤ σ.size) (hp : σ.pin ≤ σ.size) (hab : a.length = b.length) (hb : a.length ≤ 16777216)
    (hc : ∀ x ∈ a, ∀ (y : Node) (σ' : St) (fl' : Nat), fl' ≤ σ'.size → σ'.pin ≤ σ'.size → Big P K X (.call fl' g [.agg (encN x), .agg (encN y)] σ' (.bool (same1 x y)) σ'))
    (hE : ∀ ρ', Tr.sames a b = true → contM P K X wm n fl true Q k (.exit 0) ρ' σ)
    (hR : ∀ ρ' c d, Tr.sames a b = false → ρ' 6 = .bool false → contM P K X wm n fl true Q k .ret ρ' ((σ.push (.cells c)).push (.cells d))) :
    ∀ (r s pre : List Node) (ρ : VEnv) (pre2 : List Node), a = pre ++ r → b = pre2 ++ s → pre.length = pre2.length → Tr.sames a b = Tr.sames r s → ρ 1 = .vec false (encNs b) → ρ 2 = .func g [] [] → ρ 15 = .vec false (encNs a) → ρ 16 = .int .i64 a.length → ρ 17 = .int .i64 pre.length →
      loopM P K X wm n fl true Q l_slices_EqualFunc_tree_Node_0 k ρ σ := by
  intro r
  induction r with
  | nil =>
    intro s pre ρ pre2 hi hj hpp hss r1 r2 r15 r16 r17
    have hs : s = [] := by
      have := hab; rw [hi, hj] at this; simp [hpp] at this; exact this
    subst hs
    rw [List.append_nil] at hi hj
    subst hi
    refine loopM_at l_slices_EqualFunc_tree_Node_0.eq_1 ?_
    simp [r16, r17, pinned hp]
    exact hE _ (by rw [hss]; simp [Tr.sames])
  | cons x r ih =>
    intro s pre ρ pre2 hi hj hpp hss r1 r2 r15 r16 r17
    cases s with
    | nil => rw [hi, hj] at hab; simp [hpp] at hab
    | cons y s =>
      have hlen : pre.length < a.length := by rw [hi]; simp
      have hlen2 : pre.length < b.length := by rw [hj, hpp]; simp
      have hlt : (pre.length : Int) < (a.length : Int) := by omega
      have ha : a[pre.length] = x := by
        have : a[pre.length]? = some x := by rw [hi]; simp
        rw [List.getElem?_eq_getElem hlen] at this
        exact Option.some.inj this
      have hbv : b[pre.length] = y := by
        have : b[pre.length]? = some y := by rw [hj, hpp]; simp
        rw [List.getElem?_eq_getElem hlen2] at this
        exact Option.some.inj this
      have hw : IntKind.i64.wrap ((pre.length : Int) + 1) = (pre.length : Int) + 1 := wrap_i64 (by omega) (by omega)
      have hxs : x ∈ a := by rw [hi]; simp
      have hcx := hc x hxs y ((σ.push (.cells (encN x))).push (.cells (encN y))) fl (by simp; omega) (by simp; omega)
      refine loopM_at l_slices_EqualFunc_tree_Node_0.eq_1 ?_
      obtain ⟨ws, po, bl, ks⟩ := x
      obtain ⟨ws', po', bl', ks'⟩ := y
      simp [r1, r2, r15, r16, r17, nearq hfl, pinned hp, hlen, hlen2, hlt, ha, hbv, encNs_map, encN]
      simp only [encN, encNs_map] at hcx
      refine callM_of hcx ?_
      cases hs1 : same1 (.mk ws po bl ks) (.mk ws' po' bl' ks') with
      | true =>
        simp [pinned hp, nearq hfl, r17, hw]
        refine loopM_to (ih s (pre ++ [.mk ws po bl ks]) _ (pre2 ++ [.mk ws' po' bl' ks']) (by rw [hi]; simp) (by rw [hj]; simp) (by simp [hpp]) (by rw [hss]; simp [Tr.sames, hs1]) ?_ ?_ ?_ ?_ ?_) ?_
        all_goals simp [r1, r2, r15, r16, hw, encNs_map]
      | false =>
        simp
        exact hR _ _ _ (by rw [hss]; simp [Tr.sames, hs1]) (by simp)
end
theorem EqualFunc_ok {f g : Nat} {q : Bool} (H : Has P K f false c_slices_EqualFunc_tree_Node) {fl : Nat} {σ : St} {a b : List Node} (hfl : fl ≤ σ.size) (hp : σ.pin ≤ σ.size) (hb : a.length ≤ 16777216)
    (hc : ∀ x ∈ a, ∀ (y : Node) (σ' : St) (fl' : Nat), fl' ≤ σ'.size → σ'.pin ≤ σ'.size → Big P K X (.call fl' g [.agg (encN x), .agg (encN y)] σ' (.bool (same1 x y)) σ')) :
    Big P K X (.call fl f [.vec false (encNs a), .vec false (encNs b), .func g [] []] σ (.bool (Tr.sames a b)) σ) := by
  have h : ∃ v σ', (v = .bool (Tr.sames a b) ∧ σ' = σ) ∧ Big P K X (.call fl f [.vec false (encNs a), .vec false (encNs b), .func g [] []] σ v σ') := by
    refine H_callE H (Nat.le_of_ble_eq_true rfl) ?_
    by_cases hab : a.length = b.length
    · simp [c_slices_EqualFunc_tree_Node, hab, encNs_map]
      refine same_loop (a := a) (b := b) (g := g) hfl hp hab hb hc ?_ ?_ a b [] _ [] rfl rfl rfl rfl ?_ ?_ ?_ ?_ ?_
      · intro ρ' e
        simp [e]
      · intro ρ' c d e h6
        simp [h6, e, pinned hp]
      all_goals simp [hab, encNs_map]
    · have : ¬ ((a.length : Int) = (b.length : Int)) := by omega
      simp [c_slices_EqualFunc_tree_Node, this, sames_len a b hab, encNs_map]
  obtain ⟨v, σ', ⟨rfl, rfl⟩, h⟩ := h
  exact h
def S_Same (P : Program) (K : Knobs) (X : ExtV) (f : Nat) : Prop := ∀ (fl : Nat) (σ : St) (a b : List Node), fl ≤ σ.size → σ.pin ≤ σ.size → sizes a ≤ 16777216 → aws 8388608 a = true →
    Big P K X (.call fl f [.vec false (encNs a), .vec false (encNs b)] σ (.bool (Tr.sames a b)) σ)
theorem Same_ok {f fe f1 fq : Nat} (hq : S_Equal P K X fq) (He : Has P K fe false c_slices_EqualFunc_tree_Node) (H1 : Has P K f1 false (c_tree_Same_1 fq f)) (H : Has P K f false (c_tree_Same fe f1)) : S_Same P K X f := by
  have key : ∀ (N : Nat) (fl : Nat) (σ : St) (a b : List Node), fl ≤ σ.size → σ.pin ≤ σ.size → sizes a ≤ N → sizes a ≤ 16777216 → aws 8388608 a = true →
      Big P K X (.call fl f [.vec false (encNs a), .vec false (encNs b)] σ (.bool (Tr.sames a b)) σ) := by
    intro N
    induction N with
    | zero =>
      intro fl σ a b hfl hp hN hz ha
      have : a = [] := by
        cases a with
        | nil => rfl
        | cons x a => obtain ⟨ws, po, bl, ks⟩ := x; simp [sizes, size1] at hN
      subst this
      refine H_call H (Nat.le_of_ble_eq_true rfl) ?_
      simp [c_tree_Same, encNs_map]
      have := EqualFunc_ok (g := f1) (q := false) He (fl := fl) (σ := σ) (a := []) (b := b) hfl hp (by simp) (fun x h => by cases h) (X := X)
      simp only [encNs_map, List.map_nil] at this
      refine callM_of this ?_
      simp
    | succ N ih =>
      intro fl σ a b hfl hp hN hz ha
      refine H_call H (Nat.le_of_ble_eq_true rfl) ?_
      simp [c_tree_Same, encNs_map]
      have hal := sizes_len a
      have := EqualFunc_ok (g := f1) (q := false) He (fl := fl) (σ := σ) (a := a) (b := b) hfl hp (by omega) ?_ (X := X)
      · simp only [encNs_map] at this
        refine callM_of this ?_
        simp
      · intro x hx y σ' fl' hfl' hp'
        have hk := sizes_mem hx
        have hs1 := aws_mem ha hx
        have hlt : sizes x.kids < sizes a := by
          clear ih hN hz ha hal hk hs1
          induction a with
          | nil => cases hx
          | cons z a iha =>
            obtain ⟨ws, po, bl, ks⟩ := z
            rcases List.mem_cons.1 hx with rfl | hx'
            · simp [sizes, size1, Node.kids]; omega
            · have := iha hx'
              simp [sizes]; omega
        obtain ⟨ws, po, bl, ks⟩ := x
        obtain ⟨ws', po', bl', ks'⟩ := y
        simp only [aw1, Bool.and_eq_true, decide_eq_true_eq] at hs1
        simp only [Node.kids] at hlt hk
        have hwl := sum_len ws
        refine H_call H1 (Nat.le_of_ble_eq_true rfl) ?_
        by_cases hb : bl = bl'
        · subst hb
          simp [c_tree_Same_1, encN, nearq hfl', pinned hp']
          refine callM_of (hq _ _ ws ws' (by simp [nearq hfl']) (by simp [pinned hp']) (by omega)) ?_
          by_cases hw : ws = ws'
          · subst hw
            simp [c_tree_Same_1, encN, nearq hfl', pinned hp']
            refine callM_of (ih _ _ ks ks' (by simp [nearq hfl']) (by simp [pinned hp']) (by omega) (by omega) hs1.2) ?_
            simp [pinned hp', same1]
          · have : (ws == ws') = false := by simpa using hw
            simp [this, pinned hp', same1]
        · have : (bl == bl') = false := by simpa using hb
          simp [c_tree_Same_1, encN, nearq hfl', pinned hp', this, same1]
  intro fl σ a b hfl hp hz ha
  exact key _ fl σ a b hfl hp (Nat.le_refl _) hz ha
end Go.Vw.Wm
end
section
/- The walk of wide. -/
namespace Go.Vw.Wm
open Go Go.RowKit Go.Abs Go.Vw Lx Tr
set_option maxRecDepth 20000
set_option linter.unusedSimpArgs false
set_option linter.unusedVariables false
variable {P : Program} {K : Knobs} {X : ExtV}

theorem binK_rem3 (q : Nat) (c : UInt8) : binK .rem q (.int .u8 c.toNat) (.int .u8 3) = some (.int .u8 ((c.toNat % 3 : Nat) : Int)) := by
  rw [binK_int]
  simp only [binOp, ne_eq, not_true_eq_false, if_false, Op.intDiv]
  rw [if_neg (by decide)]
  rfl
/-- Blanks and ends of lines. -/
def wideOf (s : Str) : Str := (s.take 40).map fun c => if c.toNat % 3 = 0 then 10 else 32
def S_wide (P : Program) (K : Knobs) (X : ExtV) (f : Nat) : Prop := ∀ (fl : Nat) (σ : St) (s : Str), fl ≤ σ.size → σ.pin ≤ σ.size → (s.length : Int) ≤ 9223372036854775807 →
    Big P K X (.call fl f [.str s] σ (.str (wideOf s)) σ)
section
variable {wm : TypeId → Bool} {n fl : Nat} {Q : Ex → VEnv → St → Prop} {k : List Lf} {σ : St} {s : Str}
theorem wide_loop (hp : σ.pin ≤ σ.size) (hs : (s.length : Int) ≤ 9223372036854775807)
    (hE : ∀ ρ', ρ' 3 = .str (wideOf s) → contM P K X wm n fl true Q k (.exit 0) ρ' σ) :
    ∀ (r pre : Str) (ρ : VEnv), s = pre ++ r → pre.length ≤ 40 → ρ 0 = .str s → ρ 3 = .str (wideOf pre) → ρ 4 = .int .i64 pre.length →
      loopM P K X wm n fl true Q l_law14_wide_0 k ρ σ := by
  intro r
  induction r with
  | nil =>
    intro pre ρ hi h40 r0 r3 r4
    rw [List.append_nil] at hi
    subst hi
    refine loopM_at l_law14_wide_0.eq_1 ?_
    simp [r0, r3, r4, pinned hp]
    exact hE _ (by simp [r3])
  | cons c r ih =>
    intro pre ρ hi h40 r0 r3 r4
    have hlen : pre.length < s.length := by rw [hi]; simp
    have hlt : (pre.length : Int) < (s.length : Int) := by omega
    have hgi : s[pre.length] = c := by
      have : s[pre.length]? = some c := by rw [hi]; simp
      rw [List.getElem?_eq_getElem hlen] at this
      exact Option.some.inj this
    have hw : IntKind.i64.wrap ((pre.length : Int) + 1) = (pre.length : Int) + 1 := wrap_i64 (by omega) (by omega)
    refine loopM_at l_law14_wide_0.eq_1 ?_
    by_cases hz : pre.length < 40
    · have hz' : (pre.length : Int) < 40 := by omega
      have hwl : (wideOf pre).length = pre.length := by simp [wideOf]; omega
      have hl1 : (wideOf pre).length + 1 ≤ 33554432 := by omega
      have hsnoc : wideOf (pre ++ [c]) = wideOf pre ++ [if c.toNat % 3 = 0 then 10 else 32] := by
        unfold wideOf
        rw [List.take_of_length_le (by simp; omega), List.take_of_length_le (by omega)]
        simp
      have hrem := binK_rem3 0 c
      by_cases h3 : c.toNat % 3 = 0
      · rw [h3] at hrem
        simp [r0, r3, r4, pinned hp, hlen, hlt, hz', hgi, hrem, hl1, hw]
        refine ih (pre ++ [c]) _ (by rw [hi]; simp) (by simp; omega) ?_ ?_ ?_
        all_goals simp [r0, hsnoc, h3]
      · have h3' : ¬ (((c.toNat % 3 : Nat) : Int) = 0) := by omega
        generalize ((c.toNat % 3 : Nat) : Int) = z at hrem h3'
        simp [r0, r3, r4, pinned hp, hlen, hlt, hz', hgi, hrem, h3', hl1, hw]
        refine ih (pre ++ [c]) _ (by rw [hi]; simp) (by simp; omega) ?_ ?_ ?_
        all_goals simp [r0, hsnoc, h3]
    · have hz' : ¬ ((pre.length : Int) < 40) := by omega
      simp [r0, r3, r4, pinned hp, hlen, hlt, hz']
      refine hE _ ?_
      have : wideOf s = wideOf pre := by
        unfold wideOf
        have h40' : pre.length = 40 := by omega
        rw [hi, ← h40', List.take_left, List.take_length]
      simp [r3, this]
end
theorem wide_ok {f : Nat} (H : Has P K f false c_law14_wide) : S_wide P K X f := by
  intro fl σ s hfl hp hs
  refine H_call H (Nat.le_of_ble_eq_true rfl) ?_
  simp [c_law14_wide]
  refine wide_loop (s := s) hp hs ?_ s [] _ rfl (by simp) ?_ ?_ ?_
  · intro ρ' h3
    simp [h3]
  all_goals simp [wideOf]
end Go.Vw.Wm
end
section
/- Rows: the walk of rows. -/
namespace Go.Vw.Wm
open Go Go.RowKit Go.Abs Go.Vw Lx Tr
set_option maxRecDepth 20000
set_option linter.unusedSimpArgs false
set_option linter.unusedVariables false
variable {P : Program} {K : Knobs} {X : ExtV}

structure Row where
  deep : Int
  words : List Str
  spots : List Pos
  block : Bool
def encRow (r : Row) : List V := [.int .i64 r.deep, .vec false (r.words.map wordCell), .vec false (r.spots.map encP), .bool r.block]
@[simp] theorem encRow_lows (n : Nat) (r : Row) : V.lows n (encRow r) = true := by simp [encRow]
@[simp] theorem encRow_len (r : Row) : (encRow r).length = 4 := (rfl)
mutual
def row1 (d : Nat) : Node → List Row
  | .mk ws po b ks => ⟨d, ws, po, b⟩ :: (if 60 < d + 1 then [] else rowsN (d + 1) ks)
def rowsN (d : Nat) : List Node → List Row
  | [] => []
  | n :: r => row1 d n ++ rowsN d r
end
def rowsL (d : Nat) (l : List Node) : List Row := if 60 < d then [] else rowsN d l
mutual
/-- As many places as words. -/
def ev1 : Node → Bool
  | .mk ws po _ ks => decide (po.length = ws.length) && evs ks
def evs : List Node → Bool
  | [] => true
  | n :: r => ev1 n && evs r
end
theorem evs_mem : ∀ {l : List Node} {n : Node}, evs l = true → n ∈ l → ev1 n = true
  | [], _, _, h => by cases h
  | a :: l, n, h, hm => by
    simp only [evs, Bool.and_eq_true] at h
    rcases List.mem_cons.1 hm with rfl | hm
    · exact h.1
    · exact evs_mem h.2 hm
mutual
theorem row1_len : ∀ (n : Node) (d : Nat), (row1 d n).length ≤ size1 n
  | .mk ws po b ks, d => by
    have := rowsN_len ks (d + 1)
    simp only [row1, size1, List.length_cons]
    split
    · simp
    · omega
theorem rowsN_len : ∀ (l : List Node) (d : Nat), (rowsN d l).length ≤ sizes l
  | [], d => by simp [rowsN]
  | n :: r, d => by
    have := row1_len n d
    have := rowsN_len r d
    simp only [rowsN, sizes, List.length_append]
    omega
end
theorem rowsN_append (d : Nat) : ∀ (a b : List Node), rowsN d (a ++ b) = rowsN d a ++ rowsN d b
  | [], b => rfl
  | x :: a, b => by simp [rowsN, rowsN_append d a b]
theorem sizes_append : ∀ (a b : List Node), sizes (a ++ b) = sizes a + sizes b
  | [], b => by simp [sizes]
  | x :: a, b => by simp [sizes, sizes_append a b]; omega
def RowsAt (P : Program) (K : Knobs) (X : ExtV) (f : Nat) (l : List Node) : Prop := ∀ (fl : Nat) (σ : St) (d : Nat), fl ≤ σ.size → σ.pin ≤ σ.size → d ≤ 61 → sizes l ≤ 16777216 → aws 8388608 l = true → evs l = true →
    Big P K X (.call fl f [.vec false (encNs l), .int .i64 d] σ (.vec (decide (60 < d)) ((rowsL d l).map encRow)) σ)
@[simp] theorem ifnil_map {α : Type} (f : α → List V) (l : List α) (σ : St) : (if l = [] then some (V.vec true [], σ) else some (V.vec true (l.map f), σ)) = some (V.vec true (l.map f), σ) := by
  split
  · rename_i h; subst h; rfl
  · rfl
section
variable {wm : TypeId → Bool} {n fl : Nat} {Q : Ex → VEnv → St → Prop} {k : List Lf} {σ : St} {l : List Node} {d f : Nat}
theorem rows_loop (hfl : fl ≤ σ.size) (hp : σ.pin ≤ σ.size) (hd : d ≤ 60) (hz : sizes l ≤ 16777216) (haw : aws 8388608 l = true) (hev : evs l = true)
    (hk : ∀ nd ∈ l, RowsAt P K X f nd.kids)
    (hE : ∀ ρ', ρ' 5 = .vec true ((rowsN d l).map encRow) → contM P K X wm n fl true Q k (.exit 0) ρ' σ) :
    ∀ (r pre : List Node) (ρ : VEnv), l = pre ++ r → ρ 0 = .vec false (encNs l) → ρ 1 = .int .i64 d → ρ 5 = .vec true ((rowsN d pre).map encRow) → ρ 6 = .int .i64 pre.length →
      loopM P K X wm n fl true Q (l_law14_rows_0 f) k ρ σ := by
  have hll := sizes_len l
  intro r
  induction r with
  | nil =>
    intro pre ρ hi r0 r1 r5 r6
    rw [List.append_nil] at hi
    subst hi
    refine loopM_at (l_law14_rows_0.eq_1 _) ?_
    simp [r0, r1, r5, r6, pinned hp, encNs_map]
    exact hE _ (by simp [r5])
  | cons nd r ih =>
    intro pre ρ hi r0 r1 r5 r6
    have hlen : pre.length < l.length := by rw [hi]; simp
    have hlt : (pre.length : Int) < (l.length : Int) := by omega
    have hgi : l[pre.length] = nd := by
      have : l[pre.length]? = some nd := by rw [hi]; simp
      rw [List.getElem?_eq_getElem hlen] at this
      exact Option.some.inj this
    have hw : IntKind.i64.wrap ((pre.length : Int) + 1) = (pre.length : Int) + 1 := wrap_i64 (by omega) (by omega)
    have hmem : nd ∈ l := by rw [hi]; simp
    have hkn := hk nd hmem
    have hsm := aws_mem haw hmem
    have hzk := sizes_mem hmem
    have hevn := evs_mem hev hmem
    have hzs : sizes l = sizes pre + (size1 nd + sizes r) := by rw [hi, sizes_append]; rfl
    have hrl := rowsN_len pre d
    have hr1 := row1_len nd d
    obtain ⟨ws, po, bl, ks⟩ := nd
    simp only [aw1, Bool.and_eq_true, decide_eq_true_eq] at hsm
    simp only [ev1, Bool.and_eq_true, decide_eq_true_eq] at hevn
    simp only [Node.kids] at hzk hkn
    have hwl := sum_len ws
    have hws : ws.length ≤ 33554432 := by omega
    have hpo : po.length ≤ 33554432 := by omega
    have hs1 : size1 (.mk ws po bl ks) = 1 + sizes ks := by simp [size1]
    have ho1 : (rowsN d pre).length + 1 ≤ 33554432 := by omega
    have hwd : IntKind.i64.wrap ((d : Int) + 1) = ((d + 1 : Nat) : Int) := wrap_i64 (by omega) (by omega)
    have hkl : (rowsL (d + 1) ks).length ≤ sizes ks := by
      unfold rowsL
      split
      · simp
      · exact rowsN_len ks (d + 1)
    refine loopM_at (l_law14_rows_0.eq_1 _) ?_
    simp [r0, r1, r5, r6, pinned hp, hlen, hlt, hgi, encNs_map, encN, hws, hpo, ho1, hwd]
    have hc := hkn fl σ (d + 1) hfl hp (by omega) (by omega) hsm.2 hevn.2
    rw [encNs_map] at hc
    refine callM_of hc ?_
    have ho2 : (rowsN d pre).length + 1 + (rowsL (d + 1) ks).length ≤ 33554432 := by omega
    simp [r6, pinned hp, hw, ho2]
    refine ih (pre ++ [.mk ws po bl ks]) _ (by rw [hi]; simp) ?_ ?_ ?_ ?_
    all_goals simp (maxDischargeDepth := 8) [r0, r1, encNs_map, rowsN_append, rowsN, row1, encRow, rowsL]
end
theorem rows_step {f : Nat} (H : Has P K f false (c_law14_rows f)) {l : List Node} (hk : ∀ nd ∈ l, RowsAt P K X f nd.kids) : RowsAt P K X f l := by
  intro fl σ d hfl hp hd hz haw hev
  have h : ∃ v σ', (v = .vec (decide (60 < d)) ((rowsL d l).map encRow) ∧ σ' = σ) ∧ Big P K X (.call fl f [.vec false (encNs l), .int .i64 d] σ v σ') := by
    refine H_callE H (Nat.le_of_ble_eq_true rfl) ?_
    by_cases h60 : 60 < d
    · have h60' : (60 : Int) < (d : Int) := by omega
      simp [c_law14_rows, h60', rowsL, h60]
    · have h60' : ¬ (60 : Int) < (d : Int) := by omega
      simp [c_law14_rows, h60', rowsL, h60]
      refine rows_loop (l := l) (d := d) (f := f) hfl hp (by omega) hz haw hev hk ?_ l [] _ rfl ?_ ?_ ?_ ?_
      · intro ρ' h5
        simp (maxDischargeDepth := 8) [h5]
      all_goals simp [rowsN]
  obtain ⟨v, σ', ⟨rfl, rfl⟩, h⟩ := h
  exact h
theorem rows_kids {f : Nat} (H : Has P K f false (c_law14_rows f)) : ∀ (l : List Node), ∀ nd ∈ l, RowsAt P K X f nd.kids
  | [], nd, h => by cases h
  | .mk ws po b ks :: r, nd, h => by
    rcases List.mem_cons.1 h with rfl | h
    · exact rows_step H (rows_kids H ks)
    · exact rows_kids H r nd h
def S_rows (P : Program) (K : Knobs) (X : ExtV) (f : Nat) : Prop := ∀ l, RowsAt P K X f l
theorem rows_ok {f : Nat} (H : Has P K f false (c_law14_rows f)) : S_rows P K X f := fun l => rows_step H (rows_kids H l)
end Go.Vw.Wm
end
section
/- Rows: the walk of good. -/
namespace Go.Vw.Wm
open Go Go.RowKit Go.Abs Go.Vw Lx Tr
set_option maxRecDepth 20000
set_option linter.unusedSimpArgs false
set_option linter.unusedVariables false
variable {P : Program} {K : Knobs} {X : ExtV}

/-- Where the words stand. -/
def spotsOf (i n : Nat) : List Pos := (List.range n).map fun (k : Nat) => ⟨i + 1, k + 1⟩
theorem spotsOf_succ (i n : Nat) : spotsOf i (n + 1) = spotsOf i n ++ [⟨i + 1, n + 1⟩] := by simp [spotsOf, List.range_succ]
@[simp] theorem spotsOf_len (i n : Nat) : (spotsOf i n).length = n := by simp [spotsOf]
def up0 (a : Int) : Int := if a < 0 then 0 else a
def dpOf (d : Int) (r : Row) : Int := if d < up0 r.deep then d else up0 r.deep
def nextD (d : Int) (r : Row) : Int := if r.block = true ∧ dpOf d r < 30 then dpOf d r + 1 else dpOf d r
def goodL : Nat → Int → List Row → List Row
  | _, _, [] => []
  | i, d, r :: l => if 120 ≤ i then [] else if r.words.length = 0 ∨ 8 < r.words.length then goodL (i + 1) d l else ⟨dpOf d r, r.words, spotsOf i r.words.length, r.block⟩ :: goodL (i + 1) (nextD d r) l
theorem dpOf_le {d : Int} (h0 : 0 ≤ d) (r : Row) : 0 ≤ dpOf d r ∧ dpOf d r ≤ d := by
  unfold dpOf up0
  split <;> split <;> omega
theorem nextD_le {d : Int} (h0 : 0 ≤ d) (h1 : d ≤ 30) (r : Row) : 0 ≤ nextD d r ∧ nextD d r ≤ 30 := by
  have := dpOf_le h0 r
  unfold nextD
  split <;> omega
section
variable {wm : TypeId → Bool} {n fl : Nat} {Q : Ex → VEnv → St → Prop} {k : List Lf} {σ : St} {i : Nat} {dv : Int} {ws : List Str} {bl : Bool} {l out : V} {d : Int}
theorem good_in (hfl : fl ≤ σ.size) (hp : σ.pin ≤ σ.size) (hw8 : ws.length ≤ 8) (hi : i < 120) (hl0 : l.low σ.size = true) (hl3 : out.low σ.size = true)
    (hE : ∀ ρ', ρ' 0 = l → ρ' 3 = out → ρ' 4 = .int .i64 d → ρ' 5 = .int .i64 i → ρ' 6 = .ptr σ.size 0 →
      contM P K X wm n fl true Q k (.exit 2) ρ' (σ.push (.cells [.int .i64 dv, .vec false (ws.map wordCell), .vec true ((spotsOf i ws.length).map encP), .bool bl]))) :
    ∀ (m j : Nat) (ρ : VEnv), j + m = ws.length → ρ 0 = l → ρ 3 = out → ρ 4 = .int .i64 d → ρ 5 = .int .i64 i → ρ 6 = .ptr σ.size 0 → ρ 7 = .int .i64 j →
      loopM P K X wm n fl true Q l_law14_good_0 k ρ (σ.push (.cells [.int .i64 dv, .vec false (ws.map wordCell), .vec true ((spotsOf i j).map encP), .bool bl])) := by
  intro m
  induction m with
  | zero =>
    intro j ρ hj r0 r3 r4 r5 r6 r7
    have : j = ws.length := by omega
    subst this
    have hl0' : l.low (σ.size + 1) = true := V.low_mono (by omega) _ hl0
    have hl3' : out.low (σ.size + 1) = true := V.low_mono (by omega) _ hl3
    refine loopM_at l_law14_good_0.eq_1 ?_
    simp [r6, r7, pinned hp]
    refine hE _ ?_ ?_ ?_ ?_ ?_ <;> simp [r0, r3, r4, r5, r6, hl0', hl3']
  | succ m ih =>
    intro j ρ hj r0 r3 r4 r5 r6 r7
    have hlt : (j : Int) < (ws.length : Int) := by omega
    have hw : IntKind.i64.wrap ((j : Int) + 1) = (j : Int) + 1 := wrap_i64 (by omega) (by omega)
    have hwi : IntKind.i64.wrap ((i : Int) + 1) = (i : Int) + 1 := wrap_i64 (by omega) (by omega)
    have hl0' : l.low (σ.size + 1) = true := V.low_mono (by omega) _ hl0
    have hl3' : out.low (σ.size + 1) = true := V.low_mono (by omega) _ hl3
    have hj1 : j + 1 ≤ 33554432 := by omega
    refine loopM_at l_law14_good_0.eq_1 ?_
    simp [r5, r6, r7, nearq hfl, pinned hp, hlt, hw, hwi, hj1]
    refine loopM_to (ih (j + 1) _ (by omega) ?_ ?_ ?_ ?_ ?_ ?_) ?_
    all_goals simp [r0, r3, r4, r5, r6, hl0', hl3', spotsOf_succ, encP]
end
theorem mm_mx (a : Int) : minmaxV true (.int .i64 a) (.int .i64 0) = some (.int .i64 (up0 a)) := by
  simp only [minmaxV, up0, if_true, gt_iff_lt]
theorem mm_mn (a d : Int) : minmaxV false (.int .i64 a) (.int .i64 d) = some (.int .i64 (if d < a then d else a)) := by
  simp only [minmaxV, Bool.false_eq_true, if_false]
theorem goodL_stop {i : Nat} (h : 120 ≤ i) (d : Int) (l : List Row) : goodL i d l = [] := by
  cases l with
  | nil => rfl
  | cons r l => rw [goodL, if_pos h]
section
variable {wm : TypeId → Bool} {n fl : Nat} {Q : Ex → VEnv → St → Prop} {k : List Lf} {σ : St} {l : List Row}
theorem good_loop (hfl : fl ≤ σ.size) (hp : σ.pin ≤ σ.size)
    (hE : ∀ ρ', ρ' 3 = .vec true ((goodL 0 0 l).map encRow) → contM P K X wm n fl true Q k (.exit 0) ρ' σ) :
    ∀ (r pre out : List Row) (d : Int) (ρ : VEnv), l = pre ++ r → pre.length ≤ 120 → out.length ≤ pre.length → 0 ≤ d → d ≤ 30 → goodL 0 0 l = out ++ goodL pre.length d r → ρ 0 = .vec false (l.map encRow) → ρ 3 = .vec true (out.map encRow) → ρ 4 = .int .i64 d → ρ 5 = .int .i64 pre.length →
      loopM P K X wm n fl true Q l_law14_good_1 k ρ σ := by
  intro r
  induction r with
  | nil =>
    intro pre out d ρ hi h120 ho hd0 hd30 hg r0 r3 r4 r5
    rw [List.append_nil] at hi
    subst hi
    refine loopM_at l_law14_good_1.eq_1 ?_
    simp [r0, r3, r4, r5, pinned hp]
    exact hE _ (by simp [r3, hg, goodL])
  | cons x r ih =>
    intro pre out d ρ hi h120 ho hd0 hd30 hg r0 r3 r4 r5
    have hlen : pre.length < l.length := by rw [hi]; simp
    have hlt : (pre.length : Int) < (l.length : Int) := by omega
    have hgi : l[pre.length] = x := by
      have : l[pre.length]? = some x := by rw [hi]; simp
      rw [List.getElem?_eq_getElem hlen] at this
      exact Option.some.inj this
    have hw : IntKind.i64.wrap ((pre.length : Int) + 1) = (pre.length : Int) + 1 := wrap_i64 (by omega) (by omega)
    refine loopM_at l_law14_good_1.eq_1 ?_
    by_cases hz : pre.length < 120
    · have hz' : (pre.length : Int) < 120 := by omega
      have hg0 : goodL pre.length d (x :: r) = if x.words.length = 0 ∨ 8 < x.words.length then goodL (pre.length + 1) d r else ⟨dpOf d x, x.words, spotsOf pre.length x.words.length, x.block⟩ :: goodL (pre.length + 1) (nextD d x) r := by
        rw [goodL, if_neg (by omega)]
      obtain ⟨dx, ws, po, bl⟩ := x
      by_cases hb : ws.length = 0 ∨ 8 < ws.length
      · rw [if_pos hb] at hg0
        have next : ∀ ρ', ρ' 0 = .vec false (l.map encRow) → ρ' 3 = .vec true (out.map encRow) → ρ' 4 = .int .i64 d → ρ' 5 = .int .i64 ((pre.length : Int) + 1) → loopM P K X wm n fl true Q l_law14_good_1 k ρ' σ := fun ρ' a0 a3 a4 a5 =>
          ih (pre ++ [⟨dx, ws, po, bl⟩]) out d ρ' (by rw [hi]; simp) (by simp; omega) (by simp; omega) hd0 hd30 (by rw [hg, hg0]; simp) a0 a3 a4 (by rw [a5]; simp)
        rcases hb with hb | hb
        · have : ws = [] := List.eq_nil_of_length_eq_zero hb
          subst this
          simp [r0, r3, r4, r5, nearq hfl, pinned hp, hlen, hlt, hz', hgi, encRow, hw]
          refine next _ ?_ ?_ ?_ ?_
          all_goals simp [r0, r3, r4]
        · have hb' : (8 : Int) < (ws.length : Int) := by omega
          have hb'' : ¬ ((ws.length : Int) = 0) := by omega
          have hb3 : ws ≠ [] := by rintro rfl; simp at hb
          simp [r0, r3, r4, r5, nearq hfl, pinned hp, hlen, hlt, hz', hgi, encRow, hw, hb', hb'', hb3]
          refine next _ ?_ ?_ ?_ ?_
          all_goals simp [r0, r3, r4]
      · rw [if_neg hb] at hg0
        have hb1 : ¬ (8 : Int) < (ws.length : Int) := by omega
        have hb2 : ¬ ((ws.length : Int) = 0) := by omega
        have hb3 : ws ≠ [] := by rintro rfl; simp at hb
        have hdp := dpOf_le hd0 ⟨dx, ws, po, bl⟩
        have hnx := nextD_le hd0 hd30 ⟨dx, ws, po, bl⟩
        have ho1 : out.length + 1 ≤ 33554432 := by omega
        simp [r0, r3, r4, r5, nearq hfl, pinned hp, hlen, hlt, hz', hgi, encRow, hw, hb1, hb2, hb3, mm_mx, mm_mn]
        have e : (if d < up0 dx then d else up0 dx) = dpOf d ⟨dx, ws, po, bl⟩ := rfl
        rw [e]
        have hwd : IntKind.i64.wrap (dpOf d ⟨dx, ws, po, bl⟩ + 1) = dpOf d ⟨dx, ws, po, bl⟩ + 1 := wrap_i64 (by omega) (by omega)
        refine loopM_to (good_in (dv := dpOf d ⟨dx, ws, po, bl⟩) (ws := ws) (i := pre.length) (bl := bl) (l := .vec false (l.map encRow)) (out := .vec true (out.map encRow)) (d := d) hfl hp (by omega) hz (by simp) (by simp) ?_ ws.length 0 _ (by simp) ?_ ?_ ?_ ?_ ?_ ?_) ?_
        · intro ρ' a0 a3 a4 a5 a6
          have next : ∀ ρ', ρ' 0 = .vec false (l.map encRow) → ρ' 3 = .vec true ((out ++ [(⟨dpOf d ⟨dx, ws, po, bl⟩, ws, spotsOf pre.length ws.length, bl⟩ : Row)]).map encRow) → ρ' 4 = .int .i64 (nextD d ⟨dx, ws, po, bl⟩) → ρ' 5 = .int .i64 ((pre.length : Int) + 1) → loopM P K X wm n fl true Q l_law14_good_1 k ρ' σ := fun ρ' a0 a3 a4 a5 =>
            ih (pre ++ [⟨dx, ws, po, bl⟩]) (out ++ [⟨dpOf d ⟨dx, ws, po, bl⟩, ws, spotsOf pre.length ws.length, bl⟩]) (nextD d ⟨dx, ws, po, bl⟩) ρ' (by rw [hi]; simp) (by simp; omega) (by simp; omega) hnx.1 hnx.2 (by rw [hg, hg0]; simp) a0 a3 a4 (by rw [a5]; simp)
          cases bl with
          | false =>
            simp [a3, a4, a5, a6, nearq hfl, pinned hp, ho1, hw]
            refine next _ ?_ ?_ ?_ ?_
            all_goals simp (maxDischargeDepth := 8) [a0, encRow, nextD]
          | true =>
            by_cases h30 : dpOf d ⟨dx, ws, po, true⟩ < 30
            · simp [a3, a4, a5, a6, nearq hfl, pinned hp, ho1, hw, h30, hwd]
              refine next _ ?_ ?_ ?_ ?_
              all_goals simp (maxDischargeDepth := 8) [a0, encRow, nextD, h30]
            · simp [a3, a4, a5, a6, nearq hfl, pinned hp, ho1, hw, h30]
              refine next _ ?_ ?_ ?_ ?_
              all_goals simp (maxDischargeDepth := 8) [a0, encRow, nextD, h30]
        all_goals simp [r0, r3, r4, r5, spotsOf]
    · have hz' : ¬ ((pre.length : Int) < 120) := by omega
      simp [r0, r3, r4, r5, pinned hp, hlen, hlt, hz']
      refine hE _ ?_
      rw [goodL_stop (i := pre.length) (by omega) d (x :: r)] at hg
      simp [r3, hg]
end
def S_good (P : Program) (K : Knobs) (X : ExtV) (f : Nat) : Prop := ∀ (fl : Nat) (σ : St) (l : List Row), fl ≤ σ.size → σ.pin ≤ σ.size →
    Big P K X (.call fl f [.vec false (l.map encRow)] σ (.vec false ((goodL 0 0 l).map encRow)) σ)
theorem good_ok {f : Nat} (H : Has P K f false c_law14_good) : S_good P K X f := by
  intro fl σ l hfl hp
  refine H_call H (Nat.le_of_ble_eq_true rfl) ?_
  simp [c_law14_good]
  refine good_loop (l := l) hfl hp ?_ l [] [] 0 _ rfl (by simp) (by simp) (by omega) (by omega) rfl ?_ ?_ ?_ ?_
  · intro ρ' h3
    simp [h3]
  all_goals simp
end Go.Vw.Wm
end
section
/- Rows: the walk of nodes. -/
namespace Go.Vw.Wm
open Go Go.RowKit Go.Abs Go.Vw Lx Tr
set_option maxRecDepth 20000
set_option linter.unusedSimpArgs false
set_option linter.unusedVariables false
variable {P : Program} {K : Knobs} {X : ExtV}

def deeper (d : Int) (x : Row) : Bool := decide (d < x.deep)
def nodesL : Nat → Int → List Row → List Node
  | 0, _, _ => []
  | _ + 1, _, [] => []
  | N + 1, d, r :: l => .mk r.words r.spots r.block (if r.block = true then nodesL N (d + 1) (l.takeWhile (deeper d)) else []) :: nodesL N d (l.dropWhile (deeper d))
theorem tw_le {α : Type} (q : α → Bool) (l : List α) : (l.takeWhile q).length ≤ l.length := (List.takeWhile_sublist q).length_le
theorem dw_le {α : Type} (q : α → Bool) (l : List α) : (l.dropWhile q).length ≤ l.length := (List.dropWhile_sublist q).length_le
theorem nodesL_fuel : ∀ (N M : Nat) (d : Int) (l : List Row), l.length ≤ N → l.length ≤ M → nodesL N d l = nodesL M d l
  | 0, 0, _, _, _, _ => rfl
  | 0, M + 1, d, l, h, _ => by
    have : l = [] := List.eq_nil_of_length_eq_zero (by omega)
    subst this; rfl
  | N + 1, 0, d, l, _, h => by
    have : l = [] := List.eq_nil_of_length_eq_zero (by omega)
    subst this; rfl
  | N + 1, M + 1, d, [], _, _ => rfl
  | N + 1, M + 1, d, r :: l, h1, h2 => by
    simp only [List.length_cons] at h1 h2
    have ht := tw_le (deeper d) l
    have hd := dw_le (deeper d) l
    simp only [nodesL]
    rw [nodesL_fuel N M (d + 1) (l.takeWhile (deeper d)) (by omega) (by omega), nodesL_fuel N M d (l.dropWhile (deeper d)) (by omega) (by omega)]
def nodesF (d : Int) (l : List Row) : List Node := nodesL l.length d l
theorem nodesF_nil (d : Int) : nodesF d [] = [] := rfl
theorem nodesF_cons (d : Int) (r : Row) (l : List Row) : nodesF d (r :: l) = .mk r.words r.spots r.block (if r.block = true then nodesF (d + 1) (l.takeWhile (deeper d)) else []) :: nodesF d (l.dropWhile (deeper d)) := by
  have ht := tw_le (deeper d) l
  have hd := dw_le (deeper d) l
  unfold nodesF
  simp only [List.length_cons, nodesL]
  rw [nodesL_fuel l.length (l.takeWhile (deeper d)).length (d + 1) _ (by omega) (by omega), nodesL_fuel l.length (l.dropWhile (deeper d)).length d _ (by omega) (by omega)]
def rowOK (r : Row) : Prop := r.words.length ≤ 16777216 ∧ r.spots.length ≤ 16777216
section
variable {wm : TypeId → Bool} {n fl : Nat} {Q : Ex → VEnv → St → Prop} {k : List Lf} {σ : St} {l : List Row} {d : Int} {out : V} {i K0 : Nat}
theorem nodes_in (hp : σ.pin ≤ σ.size) (hl : l.length ≤ 16777216) (hlo : out.low σ.size = true)
    (hE : ∀ ρ', ρ' 0 = .vec false (l.map encRow) → ρ' 1 = .int .i64 d → ρ' 5 = out → ρ' 6 = .int .i64 i → ρ' 7 = .int .i64 K0 → contM P K X wm n fl true Q k (.exit 2) ρ' σ) :
    ∀ (r pre : List Row) (ρ : VEnv), l = pre ++ r → pre.length + (r.takeWhile (deeper d)).length = K0 → ρ 0 = .vec false (l.map encRow) → ρ 1 = .int .i64 d → ρ 5 = out → ρ 6 = .int .i64 i → ρ 7 = .int .i64 pre.length →
      loopM P K X wm n fl true Q l_law14_nodes_0 k ρ σ := by
  intro r
  induction r with
  | nil =>
    intro pre ρ hi hk r0 r1 r5 r6 r7
    rw [List.append_nil] at hi
    subst hi
    have hk' : l.length = K0 := by simpa using hk
    subst hk'
    refine loopM_at l_law14_nodes_0.eq_1 ?_
    simp [r0, r1, r7, pinned hp]
    refine hE _ ?_ ?_ ?_ ?_ ?_ <;> simp [r0, r1, r5, r6, r7, hlo]
  | cons x r ih =>
    intro pre ρ hi hk r0 r1 r5 r6 r7
    have hlen : pre.length < l.length := by rw [hi]; simp
    have hlt : (pre.length : Int) < (l.length : Int) := by omega
    have hgi : l[pre.length] = x := by
      have : l[pre.length]? = some x := by rw [hi]; simp
      rw [List.getElem?_eq_getElem hlen] at this
      exact Option.some.inj this
    have hw : IntKind.i64.wrap ((pre.length : Int) + 1) = (pre.length : Int) + 1 := wrap_i64 (by omega) (by omega)
    refine loopM_at l_law14_nodes_0.eq_1 ?_
    by_cases hd : d < x.deep
    · have hq : deeper d x = true := by simp [deeper, hd]
      obtain ⟨dx, ws, po, bl⟩ := x
      simp at hd
      simp [r0, r1, r7, pinned hp, hlen, hlt, hgi, encRow, hd, hw]
      refine ih (pre ++ [⟨dx, ws, po, bl⟩]) _ (by rw [hi]; simp) (by rw [List.takeWhile_cons, if_pos hq] at hk; simp at hk ⊢; omega) ?_ ?_ ?_ ?_ ?_
      all_goals simp [r0, r1, r5, r6, hlo]
    · have hq : ¬ deeper d x = true := by simp [deeper, hd]
      have hk' : pre.length = K0 := by rw [List.takeWhile_cons, if_neg hq] at hk; simpa using hk
      subst hk'
      obtain ⟨dx, ws, po, bl⟩ := x
      simp at hd
      have hd' : ¬ d < dx := by omega
      simp [r0, r1, r7, pinned hp, hlen, hlt, hgi, encRow, hd']
      refine hE _ ?_ ?_ ?_ ?_ ?_ <;> simp [r0, r1, r5, r6, r7, hlo]
end
def NodesAt (P : Program) (K : Knobs) (X : ExtV) (f N : Nat) : Prop := ∀ (fl : Nat) (σ : St) (l : List Row) (d : Int), fl ≤ σ.size → σ.pin ≤ σ.size → l.length ≤ N → l.length ≤ 16777216 → 0 ≤ d → d + N ≤ 1073741824 → (∀ r ∈ l, rowOK r) →
    Big P K X (.call fl f [.vec false (l.map encRow), .int .i64 d] σ (.vec false (encNs (nodesF d l))) σ)
section
variable {wm : TypeId → Bool} {n fl : Nat} {Q : Ex → VEnv → St → Prop} {k : List Lf} {σ : St} {l : List Row} {d : Int} {f N : Nat}
theorem nodes_loop (hfl : fl ≤ σ.size) (hp : σ.pin ≤ σ.size) (hN : l.length ≤ N + 1) (hl : l.length ≤ 16777216) (hd0 : 0 ≤ d) (hd1 : d + N ≤ 1073741823) (hr : ∀ r ∈ l, rowOK r) (hk : NodesAt P K X f N)
    (hE : ∀ ρ', ρ' 5 = .vec true (encNs (nodesF d l)) → contM P K X wm n fl true Q k (.exit 0) ρ' σ) :
    ∀ (m : Nat) (r pre : List Row) (out : List Node) (ρ : VEnv), r.length ≤ m → l = pre ++ r → out.length ≤ pre.length → nodesF d l = out ++ nodesF d r → ρ 0 = .vec false (l.map encRow) → ρ 1 = .int .i64 d → ρ 5 = .vec true (encNs out) → ρ 6 = .int .i64 pre.length →
      loopM P K X wm n fl true Q (l_law14_nodes_1 f) k ρ σ := by
  have stop : ∀ (pre : List Row) (out : List Node) (ρ : VEnv), l = pre → nodesF d l = out → ρ 0 = .vec false (l.map encRow) → ρ 1 = .int .i64 d → ρ 5 = .vec true (encNs out) → ρ 6 = .int .i64 pre.length →
      loopM P K X wm n fl true Q (l_law14_nodes_1 f) k ρ σ := by
    intro pre out ρ hi hn r0 r1 r5 r6
    subst hi
    refine loopM_at (l_law14_nodes_1.eq_1 _) ?_
    simp [r0, r1, r6, pinned hp]
    refine hE _ ?_
    simp [r5, hn]
  intro m
  induction m with
  | zero =>
    intro r pre out ρ hm hi ho hn r0 r1 r5 r6
    have : r = [] := List.eq_nil_of_length_eq_zero (by omega)
    subst this
    exact stop pre out ρ (by simpa using hi) (by simpa [nodesF_nil] using hn) r0 r1 r5 r6
  | succ m ih =>
    intro r pre out ρ hm hi ho hn r0 r1 r5 r6
    cases r with
    | nil => exact stop pre out ρ (by simpa using hi) (by simpa [nodesF_nil] using hn) r0 r1 r5 r6
    | cons x r =>
      have hlen : pre.length < l.length := by rw [hi]; simp
      have hlt : (pre.length : Int) < (l.length : Int) := by omega
      have hgi : l[pre.length] = x := by
        have : l[pre.length]? = some x := by rw [hi]; simp
        rw [List.getElem?_eq_getElem hlen] at this
        exact Option.some.inj this
      have hw : IntKind.i64.wrap ((pre.length : Int) + 1) = (pre.length : Int) + 1 := wrap_i64 (by omega) (by omega)
      have hwd : IntKind.i64.wrap (d + 1) = d + 1 := wrap_i64 (by omega) (by omega)
      have hrx := hr x (by rw [hi]; simp)
      have htw := tw_le (deeper d) r
      have hdw := dw_le (deeper d) r
      have hsum : (r.takeWhile (deeper d)).length + (r.dropWhile (deeper d)).length = r.length := by
        have := congrArg List.length (List.takeWhile_append_dropWhile (p := deeper d) (l := r))
        rw [List.length_append] at this
        exact this
      have hll : l.length = pre.length + (r.length + 1) := by rw [hi]; simp
      simp only [List.length_cons] at hm
      have ho1 : out.length + 1 ≤ 33554432 := by omega
      have hnx := nodesF_cons d x r
      have hlow : (V.vec true (encNs out)).low σ.size = true := by simp
      have hcut : List.take (r.takeWhile (deeper d)).length (List.drop (pre.length + 1) (List.map encRow l)) = (r.takeWhile (deeper d)).map encRow := by
        rw [← List.map_drop, ← List.map_take]
        congr 1
        have h1 : l.drop (pre.length + 1) = r := by rw [hi]; simp
        rw [h1]
        conv => lhs; rw [← List.takeWhile_append_dropWhile (p := deeper d) (l := r)]
        rw [List.take_append_of_le_length (by simp)]
        simp
      obtain ⟨dx, ws, po, bl⟩ := x
      have hws : ws.length ≤ 33554432 := by have := hrx.1; simp at this; omega
      have hpo : po.length ≤ 33554432 := by have := hrx.2; simp at this; omega
      refine loopM_at (l_law14_nodes_1.eq_1 _) ?_
      simp [r0, r1, r6, nearq hfl, pinned hp, hlen, hlt, hw]
      refine nodes_in (l := l) (d := d) (out := .vec true (encNs out)) (i := pre.length) (K0 := pre.length + 1 + (r.takeWhile (deeper d)).length) hp hl hlow ?_ r (pre ++ [⟨dx, ws, po, bl⟩]) _ (by rw [hi]; simp) (by simp) ?_ ?_ ?_ ?_ ?_
      · intro ρ' a0 a1 a5 a6 a7
        have next : ∀ (ks : List Node) ρ', nodesF d (⟨dx, ws, po, bl⟩ :: r) = .mk ws po bl ks :: nodesF d (r.dropWhile (deeper d)) → ρ' 0 = .vec false (l.map encRow) → ρ' 1 = .int .i64 d → ρ' 5 = .vec true (encNs (out ++ [.mk ws po bl ks])) → ρ' 6 = .int .i64 ((pre.length + 1 + (r.takeWhile (deeper d)).length : Nat) : Int) → loopM P K X wm n fl true Q (l_law14_nodes_1 f) k ρ' σ := fun ks ρ' hq b0 b1 b5 b6 =>
          ih (r.dropWhile (deeper d)) (pre ++ (⟨dx, ws, po, bl⟩ :: r.takeWhile (deeper d))) (out ++ [.mk ws po bl ks]) ρ' (by omega)
            (by rw [hi, List.append_assoc, List.cons_append, List.takeWhile_append_dropWhile]) (by simp; omega) (by rw [hn, hq]; simp) b0 b1 b5 (by rw [b6]; simp; omega)
        cases bl with
        | false =>
          simp [a0, a1, a5, a6, a7, nearq hfl, pinned hp, hlen, hgi, encRow, hws, hpo, ho1, encNs_map]
          refine next [] _ (by rw [hnx]; simp) ?_ ?_ ?_ ?_
          all_goals simp (maxDischargeDepth := 8) [a0, a1, encNs_map, encN, encRow]
        | true =>
          have hcut1 : pre.length + 1 + (r.takeWhile (deeper d)).length ≤ l.length := by omega
          have hn1 : (0 : Int) ≤ (pre.length : Int) + 1 + ((r.takeWhile (deeper d)).length : Int) := by omega
          have hn2 : ((pre.length : Int) + 1 + ((r.takeWhile (deeper d)).length : Int)).toNat = pre.length + 1 + (r.takeWhile (deeper d)).length := by omega
          have hn3 : (0 : Int) ≤ (pre.length : Int) + 1 := by omega
          simp [a0, a1, a5, a6, a7, nearq hfl, pinned hp, hlen, hgi, encRow, hws, hpo, ho1, encNs_map, hw, hwd, hn1, hn2, hn3, hcut1]
          rw [hcut]
          have hrt : ∀ y ∈ r.takeWhile (deeper d), rowOK y := fun y hy => hr y (by rw [hi]; simp [(List.takeWhile_sublist (deeper d)).subset hy])
          refine callM_of (hk fl _ (r.takeWhile (deeper d)) (d + 1) (by simp [nearq hfl]) (by simp [pinned hp]) (by omega) (by omega) (by omega) (by omega) hrt) ?_
          simp [a0, a1, a5, a6, a7, nearq hfl, pinned hp, ho1, encNs_map]
          refine next (nodesF (d + 1) (r.takeWhile (deeper d))) _ (by rw [hnx]; simp) ?_ ?_ ?_ ?_
          all_goals simp (maxDischargeDepth := 8) [a0, a1, encNs_map, encN, encRow]
      all_goals simp [r0, r1, r5, r6]
end
theorem nodes_at {f : Nat} (H : Has P K f false (c_law14_nodes f)) : ∀ N, NodesAt P K X f N
  | 0 => by
    intro fl σ l d hfl hp hN hl hd0 hd1 hr
    have : l = [] := List.eq_nil_of_length_eq_zero (by omega)
    subst this
    refine H_call H (Nat.le_of_ble_eq_true rfl) ?_
    simp [c_law14_nodes]
    refine loopM_at (l_law14_nodes_1.eq_1 _) ?_
    simp [pinned hp, nodesF_nil, encNs]
  | N + 1 => by
    intro fl σ l d hfl hp hN hl hd0 hd1 hr
    refine H_call H (Nat.le_of_ble_eq_true rfl) ?_
    simp [c_law14_nodes]
    refine nodes_loop (l := l) (d := d) (f := f) (N := N) hfl hp hN hl hd0 (by omega) hr (nodes_at H N) ?_ l.length l [] [] _ (Nat.le_refl _) rfl (by simp) (by simp) ?_ ?_ ?_ ?_
    · intro ρ' h5
      simp [h5]
    all_goals simp [encNs]
def S_nodes (P : Program) (K : Knobs) (X : ExtV) (f : Nat) : Prop := ∀ (fl : Nat) (σ : St) (l : List Row) (d : Int), fl ≤ σ.size → σ.pin ≤ σ.size → l.length ≤ 16777216 → 0 ≤ d → d ≤ 16777216 → (∀ r ∈ l, rowOK r) →
    Big P K X (.call fl f [.vec false (l.map encRow), .int .i64 d] σ (.vec false (encNs (nodesF d l))) σ)
theorem nodes_ok {f : Nat} (H : Has P K f false (c_law14_nodes f)) : S_nodes P K X f :=
  fun fl σ l d hfl hp hl hd0 hd1 hr => nodes_at H l.length fl σ l d hfl hp (Nat.le_refl _) hl hd0 (by omega) hr
end Go.Vw.Wm
end
section
/- How much is read, and written. -/
namespace Go.Vw.Wm
open Go Go.RowKit Go.Abs Go.Vw Lx Tr

mutual
theorem tb1_le : ∀ (x : Node) (d N W : Nat), d + size1 x ≤ N + 1 → aw1 W x = true → tb1 d x ≤ size1 x * (8 * N + W + 5)
  | .mk ws po b ks, d, N, W, h, ha => by
    simp only [aw1, Bool.and_eq_true, decide_eq_true_eq] at ha
    simp only [size1] at h
    have := tbs_le ks (d + 1) N W (by omega) ha.2
    simp only [tb1, size1]
    rw [Nat.add_mul, Nat.one_mul]
    generalize sizes ks * (8 * N + W + 5) = z at this
    omega
theorem tbs_le : ∀ (l : List Node) (d N W : Nat), d + sizes l ≤ N + 1 → aws W l = true → tbs d l ≤ sizes l * (8 * N + W + 5)
  | [], d, N, W, h, ha => by simp [tbs]
  | x :: r, d, N, W, h, ha => by
    simp only [aws, Bool.and_eq_true] at ha
    simp only [sizes] at h
    have h1 := tb1_le x d N W (by omega) ha.1
    have h2 := tbs_le r d N W (by omega) ha.2
    simp only [tbs, sizes]
    rw [Nat.add_mul]
    omega
end
mutual
theorem aw1_mono {W W' : Nat} (h : W ≤ W') : ∀ (x : Node), aw1 W x = true → aw1 W' x = true
  | .mk ws po b ks, ha => by
    simp only [aw1, Bool.and_eq_true, decide_eq_true_eq] at ha ⊢
    exact ⟨by omega, aws_mono h ks ha.2⟩
theorem aws_mono {W W' : Nat} (h : W ≤ W') : ∀ (l : List Node), aws W l = true → aws W' l = true
  | [], _ => rfl
  | x :: r, ha => by
    simp only [aws, Bool.and_eq_true] at ha ⊢
    exact ⟨aw1_mono h x ha.1, aws_mono h r ha.2⟩
end
theorem aws_append (W : Nat) : ∀ (a b : List Node), aws W a = true → aws W b = true → aws W (a ++ b) = true
  | [], b, _, h => h
  | x :: a, b, h, h' => by
    simp only [aws, Bool.and_eq_true, List.cons_append] at h ⊢
    exact ⟨h.1, aws_append W a b h.2 h'⟩
theorem evs_append : ∀ (a b : List Node), evs a = true → evs b = true → evs (a ++ b) = true
  | [], b, _, h => h
  | x :: a, b, h, h' => by
    simp only [evs, Bool.and_eq_true, List.cons_append] at h ⊢
    exact ⟨h.1, evs_append a b h.2 h'⟩

/-! ### What is read -/
def tsum (ts : List Tok) : Nat := (ts.map fun t => t.text.length + 3).sum
theorem tok1_text {c : UInt8} {t : Str} {kd : Nat} {tx : Str} {k : Nat} (h : tok1 (c :: t) = .tok kd tx k) : tx.length ≤ k := by
  simp only [tok1] at h
  split at h
  · cases h
  · split at h
    · cases h
    · split at h
      · split at h <;> cases h
      · split at h
        · split at h
          · injection h with _ h1 h2
            subst h1; subst h2
            simp only [List.length_take]; omega
          · cases h
        · split at h
          · injection h with _ h1 h2
            subst h1; subst h2; simp
          · injection h with _ h1 h2
            subst h1; subst h2
            simp only [List.length_take]; omega
theorem toks_sum : ∀ (m : Nat) (l : Str) (p : Pos) (ts : List Tok), l.length ≤ m → toks p l = .ok ts → tsum ts ≤ 4 * l.length
  | _, [], p, ts, _, h => by
    rw [toks_nil] at h
    injection h with h
    subst h; simp [tsum]
  | 0, _ :: _, _, _, h, _ => by simp at h
  | m + 1, c :: t, p, ts, hm, h => by
    have hk := tok1_took c t
    rw [toks_cons] at h
    cases he : tok1 (c :: t) with
    | bad => rw [he] at h; cases h
    | skip k =>
      rw [he] at h hk
      simp only [T1.took] at hk
      have := toks_sum m _ _ ts (by simp at hm ⊢; omega) h
      simp only [List.length_drop] at this
      omega
    | tok kd tx k =>
      rw [he] at h hk
      simp only [T1.took] at hk
      simp only at h
      cases hr : toks (advs p ((c :: t).take k)) ((c :: t).drop k) with
      | err q e => rw [hr] at h; cases h
      | ok r =>
        rw [hr] at h
        simp only [Res.push] at h
        injection h with h
        subst h
        have := toks_sum m _ _ r (by simp at hm ⊢; omega) hr
        have ht := tok1_text he
        simp only [List.length_drop] at this
        simp only [tsum, List.map_cons, List.sum_cons] at this ⊢
        omega
theorem tsum_append (a b : List Tok) : tsum (a ++ b) = tsum a + tsum b := by simp [tsum]
theorem tsum_suffix {a b : List Tok} (h : a <:+ b) : tsum a ≤ tsum b := by
  obtain ⟨c, rfl⟩ := h
  rw [tsum_append]; omega
theorem wsum_eq (ts : List Tok) : ((ts.map (·.text)).map fun w => w.length + 3).sum = tsum ts := by
  simp only [tsum, List.map_map]; rfl
/-- What came of reading is no more than what was read. -/
def LZ {ts : List Tok} (W : Nat) : PR (List Node) → Prop
  | .ok a r => sizes a + r.length ≤ ts.length ∧ aws W a = true ∧ evs a = true
  | .err _ _ => True
theorem leaf_aw {ws : List Tok} {W : Nat} (h : tsum ws ≤ W) : aw1 W (leafOf ws) = true ∧ ev1 (leafOf ws) = true ∧ size1 (leafOf ws) = 1 := by
  refine ⟨?_, by simp [leafOf, ev1, evs], by simp [leafOf, size1, sizes]⟩
  simp only [leafOf, aw1, aws, Bool.and_true, decide_eq_true_eq, wsum_eq]
  exact h
theorem leaves_aw {ws : List Tok} {W : Nat} : ∀ (inner : List Tok), tsum ws + tsum inner ≤ W → aws W (leaves ws inner) = true ∧ evs (leaves ws inner) = true ∧ sizes (leaves ws inner) = inner.length
  | [], _ => by simp [leaves, aws, evs, sizes]
  | t :: inner, h => by
    have h1 : tsum (t :: inner) = (t.text.length + 3) + tsum inner := by simp [tsum]
    have h2 : tsum (ws ++ [t]) ≤ W := by rw [tsum_append]; simp [tsum] at h1 h ⊢; omega
    have ih := leaves_aw (ws := ws) (W := W) inner (by omega)
    have hl := leaf_aw h2
    have e : leaves ws (t :: inner) = leafOf (ws ++ [t]) :: leaves ws inner := rfl
    rw [e]
    simp only [aws, evs, sizes, hl.1, hl.2.1, hl.2.2, ih.1, ih.2.1, ih.2.2, Bool.and_self, List.length_cons, true_and]
    omega
theorem wordsOf_sum (ts : List Tok) : tsum (wordsOf ts) + tsum (behind ts) = tsum ts := by
  rw [← tsum_append]
  exact congrArg tsum (List.takeWhile_append_dropWhile (p := plain) (l := ts))
theorem pLZ (W : Nat) : ∀ (N : Nat), (∀ (ts : List Tok) (deep : Nat) (op : Pos), ts.length ≤ N → tsum ts ≤ W → LZ (ts := ts) W (pL deep op ts)) ∧ (∀ (t0 : Tok) (r0 : List Tok) (deep : Nat), r0.length + 1 ≤ N → t0.kind = 1 → tsum (t0 :: r0) ≤ W → LZ (ts := t0 :: r0) W (pS deep (t0 :: r0))) := by
  intro N
  induction N with
  | zero =>
    refine ⟨fun ts deep op h _ => ?_, fun t0 r0 deep h => by omega⟩
    have : ts = [] := List.eq_nil_of_length_eq_zero (by omega)
    subst this
    rw [pL_nil]
    split <;> simp [LZ, sizes, aws, evs]
  | succ N ih =>
    obtain ⟨ihL, ihS⟩ := ih
    have hS : ∀ (t0 : Tok) (r0 : List Tok) (deep : Nat), r0.length + 1 ≤ N + 1 → t0.kind = 1 → tsum (t0 :: r0) ≤ W → LZ (ts := t0 :: r0) W (pS deep (t0 :: r0)) := by
      intro t0 r0 deep h h0 hW
      rw [pS_cons deep t0 r0 h0]
      have hb := behind_lt (ts := r0) h0
      have hl := span_len (t0 :: r0)
      have hsm := wordsOf_sum (t0 :: r0)
      cases hbe : behind (t0 :: r0) with
      | nil => simp [LZ]
      | cons t r =>
        rw [hbe] at hb hl hsm
        have htr : tsum (t :: r) = (t.text.length + 3) + tsum r := by simp [tsum]
        simp only
        split
        · have hl2 := span_len r
          have hsm2 := wordsOf_sum r
          cases hbr : behind r with
          | nil => simp [LZ]
          | cons u r2 =>
            rw [hbr] at hl2 hsm2
            simp only
            split
            · cases r2 with
              | nil => simp [LZ]
              | cons v r3 =>
                simp only
                split
                · have ha := leaves_aw (ws := wordsOf (t0 :: r0)) (W := W) (wordsOf r) (by omega)
                  refine ⟨?_, ha.1, ha.2.1⟩
                  rw [ha.2.2]
                  simp only [List.length_cons] at hl hl2 hb ⊢
                  omega
                · simp [LZ]
            · simp [LZ]
        · split
          · have ha := leaf_aw (ws := wordsOf (t0 :: r0)) (W := W) (by omega)
            refine ⟨?_, by simp [aws, ha.1], by simp [evs, ha.2.1]⟩
            simp only [sizes, ha.2.2, List.length_cons] at hb ⊢
            omega
          · split
            · split
              · simp [LZ]
              · have := ihL r (deep + 1) t.pos (by simp at hb; omega) (by omega)
                cases hq : pL (deep + 1) t.pos r with
                | err p e => simp [LZ]
                | ok k r2 =>
                  rw [hq] at this
                  obtain ⟨k1, k2, k3⟩ := this
                  refine ⟨?_, ?_, ?_⟩
                  · simp only [sizes, size1, List.length_cons] at hb k1 ⊢
                    omega
                  · simp only [aws, aw1, k2, Bool.and_true, decide_eq_true_eq, wsum_eq]
                    omega
                  · simp only [evs, ev1, k3, Bool.and_true, decide_eq_true_eq, List.length_map]
            · simp [LZ]
    refine ⟨fun ts deep op h hW => ?_, hS⟩
    cases ts with
    | nil => rw [pL_nil]; split <;> simp [LZ, sizes, aws, evs]
    | cons t ts =>
      rw [pL_cons]
      split
      · split
        · exact ⟨by simp [sizes], rfl, rfl⟩
        · simp [LZ]
      · split
        · rename_i h1
          have hs := hS t ts deep h h1 hW
          have hg := pS_good t ts deep h1
          cases hp : pS deep (t :: ts) with
          | err p e => simp [LZ]
          | ok a r =>
            rw [hp] at hs hg
            have hlt := pS_left deep (t :: ts) ⟨t, ts, rfl, h1⟩ hp
            have hts := tsum_suffix hg.1
            have hr := ihL r deep op (by simp at hlt h; omega) (by omega)
            simp only
            cases hq : pL deep op r with
            | err p e => simp [LZ]
            | ok b r2 =>
              rw [hq] at hr
              refine ⟨?_, aws_append W a b hs.2.1 hr.2.1, evs_append a b hs.2.2 hr.2.2⟩
              have := hr.1
              have := hs.1
              rw [sizes_append]
              omega
        · simp [LZ]
theorem parse_bound {s : Str} {c : List Node} (h : parse s = .ok c) : sizes c ≤ 65536 ∧ aws 262144 c = true ∧ evs c = true := by
  unfold parse at h
  cases ht : tokens s with
  | err p e => rw [ht] at h; cases h
  | ok ts =>
    rw [ht] at h
    simp only [parseToks_eq] at h
    have hlen := (tokens_ok ht).2
    unfold tokens at ht
    cases hck : Lx.check s with
    | mk p e =>
      rw [hck] at ht
      simp only at ht
      split at ht
      · rename_i he
        have hz := check_zero (s := s) (by rw [hck]; exact he)
        have hsum := toks_sum s.length s _ ts (Nat.le_refl _) ht
        have := (pLZ 262144 ts.length).1 ts 0 ⟨0, 0⟩ (Nat.le_refl _) (by have := hz.2; omega)
        cases hq : pL 0 ⟨0, 0⟩ ts with
        | err p e => rw [hq] at h; cases h
        | ok a r =>
          rw [hq] at h this
          simp only at h
          injection h with h
          subst h
          exact ⟨by have := this.1; omega, this.2.1, this.2.2⟩
      · cases ht

/-! ### Good rows as statements -/
theorem goodL_len : ∀ (l : List Row) (i : Nat) (d : Int), (goodL i d l).length + i ≤ max i 120
  | [], i, d => by simp [goodL]; omega
  | r :: l, i, d => by
    rw [goodL]
    split
    · simp; omega
    · split
      · have := goodL_len l (i + 1) d; omega
      · have := goodL_len l (i + 1) (nextD d r)
        simp only [List.length_cons]; omega
def rowIn (W : Nat) (r : Row) : Prop := (r.words.map fun w => w.length + 3).sum ≤ W ∧ r.spots.length = r.words.length
theorem goodL_in {W : Nat} : ∀ (l : List Row) (i : Nat) (d : Int), (∀ r ∈ l, (r.words.map fun w => w.length + 3).sum ≤ W) → ∀ r ∈ goodL i d l, rowIn W r
  | [], i, d, _, r, h => by simp [goodL] at h
  | x :: l, i, d, hw, r, h => by
    rw [goodL] at h
    split at h
    · cases h
    · split at h
      · exact goodL_in l _ _ (fun r hr => hw r (List.mem_cons_of_mem _ hr)) r h
      · rcases List.mem_cons.1 h with rfl | h
        · exact ⟨hw x List.mem_cons_self, by simp⟩
        · exact goodL_in l _ _ (fun r hr => hw r (List.mem_cons_of_mem _ hr)) r h
theorem nodesF_bound {W : Nat} : ∀ (N : Nat) (l : List Row) (d : Int), l.length ≤ N → (∀ r ∈ l, rowIn W r) → sizes (nodesF d l) ≤ l.length ∧ aws W (nodesF d l) = true ∧ evs (nodesF d l) = true
  | _, [], d, _, _ => by simp [nodesF_nil, sizes, aws, evs]
  | 0, _ :: _, _, h, _ => by simp at h
  | N + 1, r :: l, d, h, hr => by
    simp only [List.length_cons] at h
    have htw := tw_le (deeper d) l
    have hdw := dw_le (deeper d) l
    have hsum : (l.takeWhile (deeper d)).length + (l.dropWhile (deeper d)).length = l.length := by
      have := congrArg List.length (List.takeWhile_append_dropWhile (p := deeper d) (l := l))
      rw [List.length_append] at this
      exact this
    have h1 := nodesF_bound N (l.takeWhile (deeper d)) (d + 1) (by omega) (fun x hx => hr x (List.mem_cons_of_mem _ ((List.takeWhile_sublist _).subset hx)))
    have h2 := nodesF_bound N (l.dropWhile (deeper d)) d (by omega) (fun x hx => hr x (List.mem_cons_of_mem _ ((List.dropWhile_sublist _).subset hx)))
    have hx := hr r List.mem_cons_self
    rw [nodesF_cons]
    cases hb : r.block with
    | true =>
      simp only [if_true]
      refine ⟨?_, ?_, ?_⟩
      · simp only [sizes, size1, List.length_cons]; omega
      · simp only [aws, aw1, Bool.and_eq_true, decide_eq_true_eq]; exact ⟨⟨hx.1, h1.2.1⟩, h2.2.1⟩
      · simp only [evs, ev1, Bool.and_eq_true, decide_eq_true_eq]; exact ⟨⟨hx.2, h1.2.2⟩, h2.2.2⟩
    | false =>
      simp only [Bool.false_eq_true, if_false]
      refine ⟨?_, ?_, ?_⟩
      · simp only [sizes, size1, List.length_cons]; omega
      · simp only [aws, aw1, Bool.and_eq_true, decide_eq_true_eq]; exact ⟨⟨hx.1, trivial⟩, h2.2.1⟩
      · simp only [evs, ev1, Bool.and_eq_true, decide_eq_true_eq]; exact ⟨⟨hx.2, trivial⟩, h2.2.2⟩

/-! ### As many rows as statements -/
mutual
theorem row1_can : ∀ (n : Node) (d : Nat), d ≤ 32 → can1 d n = true → (row1 d n).length = size1 n
  | .mk ws po b ks, d, hd, h => by
    simp only [can1, Bool.and_eq_true] at h
    have h := h.2
    simp only [row1, size1, List.length_cons]
    rw [if_neg (by omega)]
    cases b with
    | true =>
      simp only [if_true, Bool.and_eq_true, decide_eq_true_eq] at h
      rw [rowsN_can ks (d + 1) (by omega) h.2]; omega
    | false =>
      simp only [Bool.false_eq_true, if_false, List.isEmpty_iff] at h
      subst h
      simp [rowsN, sizes]
theorem rowsN_can : ∀ (l : List Node) (d : Nat), d ≤ 32 → cans d l = true → (rowsN d l).length = sizes l
  | [], d, _, _ => by simp [rowsN, sizes]
  | n :: r, d, hd, h => by
    simp only [cans, Bool.and_eq_true] at h
    simp only [rowsN, sizes, List.length_append, row1_can n d hd h.1, rowsN_can r d hd h.2]
end
end Go.Vw.Wm
end
section
/- The law TreeBack, walked. -/
namespace Go.Vw.Wm
open Go Go.RowKit Go.Abs Go.Vw Lx Tr
set_option maxRecDepth 20000
set_option linter.unusedSimpArgs false
set_option linter.unusedVariables false
variable {P : Program} {K : Knobs} {X : ExtV}

theorem parse_err {s : Str} {p : Pos} {e : Int} (h : parse s = .err p e) : e ≠ 0 := by
  unfold parse at h
  cases ht : tokens s with
  | err p2 e2 =>
    rw [ht] at h
    injection h with _ h
    subst h
    exact tokens_err ht
  | ok ts =>
    rw [ht] at h
    simp only [parseToks_eq] at h
    have hg := pL_good ts 0 ⟨0, 0⟩
    cases hq : pL 0 ⟨0, 0⟩ ts with
    | ok a r => rw [hq] at h; cases h
    | err pp ee =>
      rw [hq] at h hg
      simp only at h
      injection h with _ h
      subst h
      exact hg
theorem parse_cans {s : Str} {c : List Node} (h : parse s = .ok c) : cans 0 c = true := by
  unfold parse at h
  cases ht : tokens s with
  | err p e => rw [ht] at h; cases h
  | ok ts =>
    rw [ht] at h
    simp only at h
    unfold tokens at ht
    have hg : ∀ t ∈ ts, goodTok t := by
      cases hc : Lx.check s with
      | mk p e =>
        rw [hc] at ht
        simp only at ht
        split at ht
        · rename_i he
          exact toks_good s.length s _ ts (Nat.le_refl _) (check_ok_bytes (by rw [hc]; exact he)) ht
        · cases ht
    rw [parseToks_eq] at h
    cases hp : pL 0 ⟨0, 0⟩ ts with
    | err p e => rw [hp] at h; cases h
    | ok a r =>
      rw [hp] at h
      simp only at h
      injection h with h
      subst h
      exact (pL_can ts.length 0 _ ts (Nat.le_refl _) hg (by omega) a r hp).1
def note1 : Str := [32, 47, 42, 32, 120, 32, 42, 47, 32]
def note2 : Str := [35, 32, 121]
theorem lex_note1 (r : Str) : lexKT (note1 ++ r) = lexKT r := by
  show lexKT (32 :: (47 :: 42 :: 32 :: 120 :: 32 :: 42 :: 47 :: (32 :: r))) = _
  rw [lex_blank, lex_cons]
  have : tok1 (47 :: 42 :: 32 :: 120 :: 32 :: 42 :: 47 :: (32 :: r)) = .skip 7 := by
    simp [tok1, begins, closeAt]
  rw [this]
  exact lex_blank r
theorem lex_note2 : lexKT note2 = some [] := by
  unfold note2
  rw [lex_cons]
  have : tok1 ([35, 32, 121] : Str) = .skip 3 := by simp [tok1, upto, isNl]
  rw [this]
  exact lex_nil
theorem lex_wide (s r : Str) : lexKT (wideOf s ++ r) = lexKT r := by
  unfold wideOf
  induction s.take 40 with
  | nil => rfl
  | cons c l ih =>
    simp only [List.map_cons, List.cons_append]
    split
    · rw [lex_nl]; exact ih
    · rw [lex_blank]; exact ih
theorem wide_ok_bytes (s : Str) : (∀ c ∈ wideOf s, okByte c) ∧ (wideOf s).count 10 ≤ 40 ∧ (wideOf s).length ≤ 40 := by
  have hl : (wideOf s).length ≤ 40 := by simp [wideOf]; omega
  refine ⟨?_, Nat.le_trans List.count_le_length hl, hl⟩
  intro c hc
  simp only [wideOf, List.mem_map] at hc
  obtain ⟨x, _, rfl⟩ := hc
  split
  · exact .inl rfl
  · exact .inr (by decide)
theorem back_noted {c : List Node} {t : Str} (blank : Str) (h : prs 0 c = some t) (hl : t.length ≤ 60000) (hs : sizes c ≤ 1500) :
    ∃ d, parse (note1 ++ wideOf blank ++ t ++ note2) = .ok d ∧ Tr.sames c d = true := by
  have hk := prs_ok c 0 t h
  have hw := wide_ok_bytes blank
  refine back (pre := note1 ++ wideOf blank) (suf := note2) h ?_ lex_note2 ?_ ?_ ?_
  · intro r
    rw [List.append_assoc, lex_note1, lex_wide]
  · have h1 : ∀ c ∈ note1, okByte c := by
      intro c hc
      simp only [note1, List.mem_cons, List.not_mem_nil, or_false] at hc
      rcases hc with rfl | rfl | rfl | rfl | rfl | rfl | rfl | rfl | rfl <;> exact .inr (by decide)
    have h2 : ∀ c ∈ note2, okByte c := by
      intro c hc
      simp only [note2, List.mem_cons, List.not_mem_nil, or_false] at hc
      rcases hc with rfl | rfl | rfl <;> exact .inr (by decide)
    exact ok_append (ok_append (ok_append h1 hw.1) hk.1) h2
  · simp only [List.length_append]
    have := hw.2.2
    have h1 : note1.length = 9 := rfl
    have h2 : note2.length = 3 := rfl
    omega
  · simp only [List.count_append]
    have := hw.2.1
    have := hk.2
    have h1 : note1.count 10 = 0 := by decide
    have h2 : note2.count 10 = 0 := by decide
    omega

def S_awake (P : Program) (K : Knobs) (X : ExtV) (f : Nat) : Prop := ∀ (fl : Nat) (σ : St), fl ≤ σ.size → Big P K X (.call fl f [] σ (.bool true) σ)
def S_TreeBack (P : Program) (K : Knobs) (X : ExtV) (f : Nat) : Prop := ∀ (fl : Nat) (σ : St) (l : List Row) (s blank : Str), fl ≤ σ.size → σ.pin ≤ σ.size → (∀ r ∈ l, (r.words.map fun w => w.length + 3).sum ≤ 8388608) → (blank.length : Int) ≤ 9223372036854775807 →
    Big P K X (.call fl f [.vec false (l.map encRow), .str s, .str blank] σ (.bool true) σ)
def behindA : CC → CC
  | .seq _ (.seq _ (.seq _ (.seq _ (.seq _ b)))) => b
  | c => c
def withTail (b : CC) : CC → CC
  | .seq a1 (.seq a2 (.seq a3 (.seq a4 (.seq a5 _)))) => .seq a1 (.seq a2 (.seq a3 (.seq a4 (.seq a5 b))))
  | c => c
theorem back_tail {wm : TypeId → Bool} {fl fa fg fn fr fp fs fw fo : Nat} (hr : S_Print P K X fr) (hp' : S_Parse P K X fp) (hs : S_Same P K X fs) (hw : S_wide P K X fw) (ho : S_rows P K X fo)
    {σ σ1 : St} {s blank : Str} (hfl : fl ≤ σ.size) (hp : σ.pin ≤ σ.size) (hbl : (blank.length : Int) ≤ 9223372036854775807) (h1 : σ1 = σ ∨ ∃ c, σ1 = σ.push (.cells c)) {ρ : VEnv} (r1 : ρ 1 = .str s) (r2 : ρ 2 = .str blank) :
    goM P K X wm 99 fl true (endE [.t 6] σ.size fun v σ' => v = .bool true ∧ σ' = σ) (behindA (c_law14_TreeBack fa fg fn fr fp fs fw fo).code) [] ρ σ1 := by
  simp only [c_law14_TreeBack, behindA]
  cases hps : parse s with
  | err p e =>
    have he := parse_err hps
    rcases h1 with rfl | ⟨c, rfl⟩
    all_goals
      simp [r1]
      refine callM_of (hp' _ _ s (by simp [nearq hfl]) (by simp [pinned hp])) ?_
      simp [hps, parseOut, he, encP, nearq hfl, pinned hp]
  | ok c =>
    obtain ⟨t, ht⟩ := parse_can hps
    obtain ⟨hz, hw1, hev⟩ := parse_bound hps
    have hcan := rowsN_can c 0 (by omega) (parse_cans hps)
    have hwb := aws_mono (W' := 8388608) (by omega) c hw1
    have htb : tbs 0 c ≤ 68719476736 := by
      have := tbs_le c 0 65536 262144 (by omega) hw1
      have h2 : sizes c * (8 * 65536 + 262144 + 5) ≤ 65536 * (8 * 65536 + 262144 + 5) := Nat.mul_le_mul_right _ hz
      omega
    have htl := prs_tbs c 0 t ht
    have hwl := (wide_ok_bytes blank).2.2
    have hn1 : note1.length = 9 := rfl
    have hn2 : note2.length = 3 := rfl
    have add1 : binK .add 0 (.str [32, 47, 42, 32, 120, 32, 42, 47, 32]) (.str (wideOf blank)) = some (.str (note1 ++ wideOf blank)) := binK_sadd 0 note1 (wideOf blank) (by show (_ : Int) ≤ 9223372036854775807; omega)
    have add2 : binK .add 0 (.str (note1 ++ wideOf blank)) (.str t) = some (.str (note1 ++ wideOf blank ++ t)) := binK_sadd 0 _ _ (by show (_ : Int) ≤ 9223372036854775807; rw [List.length_append]; omega)
    have add3 : binK .add 0 (.str (note1 ++ wideOf blank ++ t)) (.str [35, 32, 121]) = some (.str (note1 ++ wideOf blank ++ t ++ note2)) := binK_sadd 0 _ note2 (by show (_ : Int) ≤ 9223372036854775807; rw [List.length_append, List.length_append]; omega)
    rcases h1 with rfl | ⟨c0, rfl⟩
    all_goals
      simp [r1]
      refine callM_of (hp' _ _ s (by simp [nearq hfl]) (by simp [pinned hp])) ?_
      simp [hps, parseOut, encP, nearq hfl, pinned hp]
      refine callM_of (hr _ _ c (by simp [nearq hfl]) (by simp [pinned hp]) (by omega) (by omega) hwb) ?_
      simp [ht, printOut, r2, nearq hfl, pinned hp]
      refine callM_of (hw _ _ blank (by simp [nearq hfl]) (by simp [pinned hp]) hbl) ?_
      simp [-List.cons_append, -List.append_assoc, add1, add2, add3]
      refine callM_of (hp' _ _ _ (by simp [nearq hfl]) (by simp [pinned hp])) ?_
    all_goals
      by_cases hbig : 60000 < t.length
      · have hbig' : (60000 : Int) < (t.length : Int) := by omega
        cases hq : parse (note1 ++ wideOf blank ++ t ++ note2) with
        | err p e => simp [-List.cons_append, -List.append_assoc, hq, parseOut, encP, nearq hfl, pinned hp, hbig']
        | ok d => simp [-List.cons_append, -List.append_assoc, hq, parseOut, encP, nearq hfl, pinned hp, hbig']
      · have hbig' : ¬ (60000 : Int) < (t.length : Int) := by omega
        have hrow : (rowsL 0 c).length = sizes c := by
          unfold rowsL
          rw [if_neg (by omega)]
          exact hcan
        by_cases hmany : 1500 < sizes c
        · have hmany' : (1500 : Int) < (sizes c : Int) := by omega
          cases hq : parse (note1 ++ wideOf blank ++ t ++ note2) with
          | err p e =>
            simp [-List.cons_append, -List.append_assoc, hq, parseOut, encP, nearq hfl, pinned hp, hbig']
            refine callM_of (ho c _ _ 0 (by simp [nearq hfl]) (by simp [pinned hp]) (by omega) (by omega) hwb hev) ?_
            simp [hrow, hmany', pinned hp]
          | ok d =>
            simp [-List.cons_append, -List.append_assoc, hq, parseOut, encP, nearq hfl, pinned hp, hbig']
            refine callM_of (ho c _ _ 0 (by simp [nearq hfl]) (by simp [pinned hp]) (by omega) (by omega) hwb hev) ?_
            simp [hrow, hmany', pinned hp]
        · have hmany' : ¬ (1500 : Int) < (sizes c : Int) := by omega
          obtain ⟨d, hq, hsm⟩ := back_noted blank ht (by omega) (by omega)
          simp [-List.cons_append, -List.append_assoc, hq, parseOut, encP, nearq hfl, pinned hp, hbig']
          refine callM_of (ho c _ _ 0 (by simp [nearq hfl]) (by simp [pinned hp]) (by omega) (by omega) hwb hev) ?_
          simp [hrow, hmany', pinned hp, nearq hfl]
          refine callM_of (hs _ _ c d (by simp [nearq hfl]) (by simp [pinned hp]) (by omega) hwb) ?_
          simp [hsm, pinned hp]
theorem TreeBack_ok {f fa fg fn fr fp fs fw fo : Nat} (ha : S_awake P K X fa) (hg : S_good P K X fg) (hn : S_nodes P K X fn) (hr : S_Print P K X fr) (hp' : S_Parse P K X fp) (hs : S_Same P K X fs) (hw : S_wide P K X fw) (ho : S_rows P K X fo)
    (H : Has P K f false (c_law14_TreeBack fa fg fn fr fp fs fw fo)) : S_TreeBack P K X f := by
  intro fl σ l s blank hfl hp hlw hbl
  have h : ∃ v σ', (v = .bool true ∧ σ' = σ) ∧ Big P K X (.call fl f [.vec false (l.map encRow), .str s, .str blank] σ v σ') := by
    refine H_callE H (Nat.le_of_ble_eq_true rfl) ?_
    have hgl := goodL_len l 0 0
    have hgl' : (goodL 0 0 l).length ≤ 120 := by omega
    have hgi := goodL_in l 0 0 hlw
    have hnb := nodesF_bound (goodL 0 0 l).length (goodL 0 0 l) 0 (Nat.le_refl _) hgi
    have hza : sizes (nodesF 0 (goodL 0 0 l)) ≤ 120 := by omega
    generalize hA : nodesF 0 (goodL 0 0 l) = a at *
    have hta : tbs 0 a ≤ 1099511627776 := by
      have := tbs_le a 0 119 8388608 (by omega) hnb.2.1
      have h2 : sizes a * (8 * 119 + 8388608 + 5) ≤ 120 * (8 * 119 + 8388608 + 5) := Nat.mul_le_mul_right _ hza
      omega
    have tail := fun (σ1 : St) (h1 : σ1 = σ ∨ ∃ c, σ1 = σ.push (.cells c)) (ρ : VEnv) (r1 : ρ 1 = .str s) (r2 : ρ 2 = .str blank) => back_tail (wm := K.wm f) (fa := fa) (fg := fg) (fn := fn) hr hp' hs hw ho hfl hp hbl h1 r1 r2
    have hcode : (c_law14_TreeBack fa fg fn fr fp fs fw fo).code = withTail (behindA (c_law14_TreeBack fa fg fn fr fp fs fw fo).code) (c_law14_TreeBack fa fg fn fr fp fs fw fo).code := rfl
    rw [hcode]
    generalize behindA (c_law14_TreeBack fa fg fn fr fp fs fw fo).code = B at tail
    simp [c_law14_TreeBack, withTail]
    refine callM_of (ha _ _ (by simp [nearq hfl])) ?_
    simp
    refine callM_of (hg _ _ l (by simp [nearq hfl]) (by simp [pinned hp])) ?_
    simp
    refine callM_of (hn _ _ (goodL 0 0 l) 0 (by simp [nearq hfl]) (by simp [pinned hp]) (by omega) (by omega) (by omega) (fun r hr => ⟨by have := (hgi r hr).1; have := sum_len r.words; omega, by have := (hgi r hr).1; have := sum_len r.words; rw [(hgi r hr).2]; omega⟩)) ?_
    rw [hA]
    simp
    refine callM_of (hr _ _ a (by simp [nearq hfl]) (by simp [pinned hp]) hta (by omega) hnb.2.1) ?_
    cases hpa : prs 0 a with
    | none =>
      simp [printOut]
      exact tail _ (.inl rfl) _ (by simp) (by simp)
    | some t =>
      by_cases ht : t.length < 60000
      · have ht' : (t.length : Int) < 60000 := by omega
        by_cases hl : l.length < 2000
        · have hl' : (l.length : Int) < 2000 := by omega
          obtain ⟨b, hb1, hb2⟩ := back_plain hpa (by omega) (by omega)
          simp [printOut, ht', hl']
          refine callM_of (hp' _ _ t (by simp [nearq hfl]) (by simp [pinned hp])) ?_
          simp [hb1, parseOut, encP, nearq hfl, pinned hp]
          refine callM_of (hs _ _ a b (by simp [nearq hfl]) (by simp [pinned hp]) (by omega) hnb.2.1) ?_
          simp [hb2]
          exact tail _ (.inr ⟨_, rfl⟩) _ (by simp) (by simp)
        · have hl' : ¬ (l.length : Int) < 2000 := by omega
          simp [printOut, ht', hl']
          exact tail _ (.inl rfl) _ (by simp) (by simp)
      · have ht' : ¬ (t.length : Int) < 60000 := by omega
        simp [printOut, ht']
        exact tail _ (.inl rfl) _ (by simp) (by simp)
  obtain ⟨v, σ', ⟨rfl, rfl⟩, h⟩ := h
  exact h
end Go.Vw.Wm
end
section
/- What is handed in, as a heap to begin with: plain types (no pointers). -/
namespace Go.Vw
open Go Go.RowKit Go.Abs

/-! ### A heap that nobody writes -/
structure Built (W : World) (g : Gh) (m : M) (H : AH) : Prop where
  mu : g.μ = []
  dead : H.dead = .leaf
  ty : H.ty = .leaf
  fro : ∀ b vs, g.C b = some vs → H.get b = some (.cells vs false)
  bound : ∀ b, H.next ≤ b → H.get b = none ∧ m b = none
  inb : ∀ b q, m b = some q → q.1 < W.heap.size
  dom : ∀ b x, H.get b = some x → ∃ vs q, x = .cells vs false ∧ m b = some q ∧ OR W.heap.size m W q x
  old : ∀ b, H.oldAt b = false
  kin : ∀ b, H.get b ≠ none → H.kinAt b < H.next
theorem Built.r {W : World} {g : Gh} {m : M} {H : AH} (h : Built W g m H) (L : Nat) : R W L m H W :=
  ⟨Below.refl _ _, fun b hb _ => (h.bound b hb).2, fun b hb => (h.bound b hb).1, h.inb, fun b x hx => (by obtain ⟨vs, q, _, h2, h3⟩ := h.dom b x hx; exact ⟨q, h2, h3⟩),
    fun b b' y x q q' hy ho => (by obtain ⟨vs, q, rfl, _⟩ := h.dom b y hy; cases ho),
    fun b x _ ho => (by rw [h.old] at ho; cases ho), fun b t ht => (by rw [h.ty] at ht; cases ht)⟩
theorem Built.s {W : World} {g : Gh} {m : M} {H : AH} (h : Built W g m H) : SR g (fun _ => False) ⟨[], 0⟩ H := by
  have hb : ∀ o, g.blk o = none := fun o => by unfold Gh.blk; rw [h.mu]; rfl
  refine ⟨by rw [h.mu]; rfl, fun o x b hx => (by cases hx), fun b vs e => ⟨false, h.fro b vs e⟩, fun b e => e.elim, fun o b ⟨e, _⟩ => (by rw [hb] at e; cases e), fun o o' b b' ⟨e, _⟩ => (by rw [hb] at e; cases e), fun o b j ⟨e, _⟩ => (by rw [hb] at e; cases e), h.kin, fun b e => (h.bound b e).1, fun k _ => (by rw [h.dead]; rfl), fun o x hx => (by cases hx), fun o b e => (by rw [hb] at e; cases e), fun b _ => (by rw [h.ty]; rfl)⟩
theorem built0 (W : World) : Built W ⟨[], fun _ => none, fun _ => none⟩ (fun _ => none) (bare 0) :=
  ⟨rfl, rfl, rfl, fun b vs e => (by cases e), fun b _ => ⟨rfl, rfl⟩, fun b q e => (by cases e), fun b x e => (by cases e), fun b => rfl, fun b e => absurd rfl e⟩
theorem Built.add {W : World} {g : Gh} {m : M} {H : AH} (h : Built W g m H) {vs : List AV} {q : Nat × Nat × Nat} (hq : q.1 < W.heap.size) (hl : vs.length ≤ q.2.2)
    (hv : ∀ i v, vs[i]? = some v → v.isCell = true ∧ ∃ u, W.cell? ⟨q.1, q.2.1 + i, none⟩ = some u ∧ VR m v u) :
    Built W ⟨[], fun b => if b = H.next then some vs else g.C b, g.U⟩ (m.upd H.next q) (H.add (.cells vs false)) ∧ Sub m (m.upd H.next q) ∧ g.Le ⟨[], fun b => if b = H.next then some vs else g.C b, g.U⟩ := by
  have hsub : Sub m (m.upd H.next q) := Sub.upd (h.bound _ (Nat.le_refl _)).2 _
  have hC : ∀ b ws, g.C b = some ws → b ≠ H.next := fun b ws e hb => by
    subst hb
    have := h.fro _ _ e
    rw [(h.bound _ (Nat.le_refl _)).1] at this
    cases this
  refine ⟨⟨rfl, h.dead, h.ty, ?_, ?_, ?_, ?_, ?_, ?_⟩, hsub, ⟨fun o b e => ?_, fun b ws e => ?_⟩⟩
  · intro b ws e
    simp only at e
    rw [AH.get_add]
    split at e
    · rename_i hb
      simp only [Option.some.injEq] at e
      subst e
      rw [if_pos hb]
    · rename_i hb
      rw [if_neg hb]
      exact h.fro b ws e
  · intro b hb
    simp only [AH.add] at hb
    rw [AH.get_add, if_neg (by omega), M.upd_ne (by omega)]
    exact h.bound b (by omega)
  · intro b q' e
    by_cases hb : b = H.next
    · subst hb; rw [M.upd_same] at e; simp only [Option.some.injEq] at e; subst e; exact hq
    · rw [M.upd_ne hb] at e; exact h.inb b q' e
  · intro b x e
    rw [AH.get_add] at e
    by_cases hb : b = H.next
    · subst hb
      rw [if_pos rfl] at e
      simp only [Option.some.injEq] at e
      subst e
      refine ⟨vs, q, rfl, M.upd_same _ _ _, hl, fun i v hi => ?_, fun e => (by cases e)⟩
      obtain ⟨h1, u, h2, h3⟩ := hv i v hi
      exact ⟨h1, u, h2, h3.sub hsub⟩
    · rw [if_neg hb] at e
      obtain ⟨ws, q', h1, h2, h3⟩ := h.dom b x e
      exact ⟨ws, q', h1, by rw [M.upd_ne hb]; exact h2, h3.sub hsub⟩
  · intro b
    rw [AH.oldAt_add]
    split
    · rfl
    · exact h.old b
  · intro b hb
    rw [AH.get_add] at hb
    rw [AH.kinAt_add]
    show _ < H.next + 1
    split
    · omega
    · rename_i hne
      rw [if_neg hne] at hb
      have := h.kin b hb
      omega
  · unfold Gh.blk at e; rw [h.mu] at e; cases e
  · show (if b = H.next then some vs else g.C b) = some ws
    rw [if_neg (hC b ws e)]; exact e

/-! ### What a reading says, as values -/
mutual
def encD {H : Type} : DataW H → List V
  | .lit (.int k n) => [.int k n]
  | .lit (.bool b) => [.bool b]
  | .lit (.string s) => [.str s]
  | .slice els _ => [.vec false (encDs els)]
  | .agg ps => (encDs ps).flatten
  | .nil => [.vec false []]
  | _ => [.undef]
def encDs {H : Type} : List (DataW H) → List (List V)
  | [] => []
  | d :: r => encD d :: encDs r
end
def layOK (P : Program) : List Field → Nat → Option Nat
  | [], o => some o
  | f :: r, o => if f.offset = o then layOK P r (o + P.cellsOf f.type) else none
/-- Types without pointers. -/
def plainTy (P : Program) : Nat → TypeId → Bool
  | 0, _ => false
  | n + 1, t => match P.underlying t with
    | some .bool | some (.int _) | some .string => P.cellsOf t == 1
    | some (.slice e) => P.cellsOf t == 1 && (decide (0 < P.cellsOf e) && plainTy P n e)
    | some (.struct fs) => fs.toList.all (fun f => plainTy P n f.type) && layOK P fs.toList 0 == some (P.cellsOf t)
    | _ => false

theorem mapM_cons_some {α β : Type} {f : α → Option β} {x : α} {l : List α} {r : List β} (h : (x :: l).mapM f = some r) : ∃ y ys, f x = some y ∧ l.mapM f = some ys ∧ r = y :: ys := by
  simp only [List.mapM_cons, Option.bind_eq_bind, Option.bind_eq_some_iff, Option.pure_def, Option.some.injEq] at h
  obtain ⟨y, h1, ys, h2, h3⟩ := h
  exact ⟨y, ys, h1, h2, h3.symm⟩
theorem flat_at {α : Type} {c : Nat} : ∀ (ass : List (List α)), (∀ x ∈ ass, x.length = c) → ∀ (i : Nat) (x : List α), ass[i]? = some x → (ass.flatten.drop (i * c)).take c = x
  | [], _, i, x, h => by simp at h
  | y :: r, hc, i, x, h => by
    have hy := hc y List.mem_cons_self
    cases i with
    | zero =>
      simp only [List.getElem?_cons_zero, Option.some.injEq] at h
      subst h
      simp only [Nat.zero_mul, List.drop_zero, List.flatten_cons]
      rw [← hy, List.take_left]
    | succ i =>
      simp only [List.getElem?_cons_succ] at h
      have := flat_at r (fun z hz => hc z (List.mem_cons_of_mem _ hz)) i x h
      rw [List.flatten_cons, show (i + 1) * c = y.length + i * c by rw [hy, Nat.succ_mul]; omega, ← List.drop_drop, List.drop_left]
      exact this
theorem flat_len {α : Type} {c : Nat} : ∀ (ass : List (List α)), (∀ x ∈ ass, x.length = c) → ass.flatten.length = ass.length * c
  | [], _ => by simp
  | y :: r, hc => by
    rw [List.flatten_cons, List.length_append, flat_len r (fun z hz => hc z (List.mem_cons_of_mem _ hz)), hc y List.mem_cons_self, List.length_cons, Nat.succ_mul]
    omega
end Go.Vw
end
section
/- A reading of plain types: the heap to begin with. -/
namespace Go.Vw
open Go Go.RowKit Go.Abs

/-- What is built from here on. -/
def Grows (W : World) (g : Gh) (m : M) (_ : AH) (P : Gh → M → Prop) : Prop := ∃ g' m' H', Built W g' m' H' ∧ Sub m m' ∧ g.Le g' ∧ P g' m'
theorem Grows.mono {W : World} {g : Gh} {m : M} {H : AH} {P Q : Gh → M → Prop} (h : Grows W g m H P) (k : ∀ g' m', Sub m m' → g.Le g' → P g' m' → Q g' m') : Grows W g m H Q := by
  obtain ⟨g', m', H', h1, h2, h3, h4⟩ := h
  exact ⟨g', m', H', h1, h2, h3, k g' m' h2 h3 h4⟩
theorem Grows.bind {W : World} {g : Gh} {m : M} {H : AH} {P Q : Gh → M → Prop} (h : Grows W g m H P) (k : ∀ g' m' H', Built W g' m' H' → Sub m m' → g.Le g' → P g' m' → Grows W g' m' H' Q) : Grows W g m H Q := by
  obtain ⟨g', m', H', h1, h2, h3, h4⟩ := h
  obtain ⟨g2, m2, H2, k1, k2, k3, k4⟩ := k g' m' H' h1 h2 h3 h4
  exact ⟨g2, m2, H2, k1, h2.trans k2, h3.trans k3, k4⟩
theorem Grows.here {W : World} {g : Gh} {m : M} {H : AH} {P : Gh → M → Prop} (hb : Built W g m H) (h : P g m) : Grows W g m H P := ⟨g, m, H, hb, Sub.refl _, .refl _, h⟩

theorem Grows.here' {W : World} {g g' : Gh} {m m' : M} {H H' : AH} {P : Gh → M → Prop} (hb : Built W g' m' H') (hs : Sub m m') (hl : g.Le g') (h : P g' m') : Grows W g m H P := ⟨g', m', H', hb, hs, hl, h⟩
/-- Cells of values, of the evaluator's cells, of the world's. -/
structure Same3 (g : Gh) (m : M) (vs : List V) (as_ : List AV) (cs : List Value) : Prop where
  va : VAs g vs as_
  vr : VRs m as_ cs
  cell : vs.all V.isCell = true
  acell : as_.all AV.isCell = true
theorem Same3.mono {g g' : Gh} {m m' : M} {vs : List V} {as_ : List AV} {cs : List Value} (h : Same3 g m vs as_ cs) (hs : Sub m m') (hl : g.Le g') : Same3 g' m' vs as_ cs :=
  ⟨VAs.mono hl h.va, VRs.sub hs h.vr, h.cell, h.acell⟩
theorem VRs.append {m : M} : ∀ {a b : List AV} {c d : List Value}, VRs m a c → VRs m b d → VRs m (a ++ b) (c ++ d)
  | _, _, _, _, .nil, h => h
  | _, _, _, _, .cons _ _ _ _ h k, h2 => .cons _ _ _ _ h (VRs.append k h2)
theorem VRs.get {m : M} : ∀ {a : List AV} {c : List Value}, VRs m a c → ∀ (i : Nat) (v : AV), a[i]? = some v → ∃ u, c[i]? = some u ∧ VR m v u
  | _, _, .nil, i, v, h => by simp at h
  | _, _, .cons x u l c h k, 0, v, e => by simp only [List.getElem?_cons_zero, Option.some.injEq] at e; subst e; exact ⟨u, rfl, h⟩
  | _, _, .cons x u l c h k, i + 1, v, e => by simpa using VRs.get k i v (by simpa using e)
theorem Same3.append {g : Gh} {m : M} {a b : List V} {a' b' : List AV} {c d : List Value} (h : Same3 g m a a' c) (k : Same3 g m b b' d) : Same3 g m (a ++ b) (a' ++ b') (c ++ d) :=
  ⟨h.va.append k.va, h.vr.append k.vr, by rw [List.all_append, h.cell, k.cell]; rfl, by rw [List.all_append, h.acell, k.acell]; rfl⟩
theorem Same3.one {g : Gh} {m : M} {v : V} {a : AV} {u : Value} (h : VA g v a) (k : VR m a u) (hv : v.isCell = true) (ha : a.isCell = true) : Same3 g m [v] [a] [u] :=
  ⟨.cons _ _ _ _ h .nil, .cons _ _ _ _ k .nil, by simp [hv], by simp [ha]⟩

/-- A list of readings, one after the other. -/
theorem grow_list {W : World} {Hd : Type} {rd : List Value → Option (DataW Hd × List MemPlace)} {c : Nat} (hrd : ∀ (cs : List Value) (x : DataW Hd × List MemPlace), rd cs = some x → cs.length = c → ∀ g m H, Built W g m H → Grows W g m H fun g' m' => ∃ as_, Same3 g' m' (encD x.1) as_ cs) :
    ∀ (l : List (List Value)) (xs : List (DataW Hd × List MemPlace)) (g : Gh) (m : M) (H : AH), (∀ cs ∈ l, cs.length = c) → l.mapM rd = some xs → Built W g m H →
      Grows W g m H fun g' m' => ∃ ass : List (List AV), ass.length = l.length ∧ xs.length = l.length ∧ ∀ (i : Nat) (cs : List Value), l[i]? = some cs → ∃ (x : DataW Hd × List MemPlace) (a : List AV), xs[i]? = some x ∧ ass[i]? = some a ∧ Same3 g' m' (encD x.1) a cs
  | [], xs, g, m, H, hc, h, hb => by
    simp only [List.mapM_nil, Option.pure_def, Option.some.injEq] at h
    subst h
    exact .here hb ⟨[], rfl, rfl, fun i cs e => by simp at e⟩
  | cs :: l, xs, g, m, H, hc, h, hb => by
    obtain ⟨y, ys, h1, h2, rfl⟩ := mapM_cons_some h
    refine (hrd cs y h1 (hc cs List.mem_cons_self) g m H hb).bind fun g1 m1 H1 hb1 hs1 hl1 ⟨a, ha⟩ => ?_
    refine (grow_list hrd l ys g1 m1 H1 (fun z hz => hc z (List.mem_cons_of_mem _ hz)) h2 hb1).mono fun g2 m2 hs2 hl2 ⟨ass, k1, k2, k3⟩ => ?_
    refine ⟨a :: ass, by simp [k1], by simp [k2], fun i ds e => ?_⟩
    cases i with
    | zero =>
      simp only [List.getElem?_cons_zero, Option.some.injEq] at e
      subst e
      exact ⟨y, a, rfl, rfl, ha.mono hs2 hl2⟩
    | succ i => simpa using k3 i ds (by simpa using e)

theorem cells_get {W : World} {a : Addr} {n : Nat} {cs : List Value} (h : W.cells? 0 a n = some cs) : cs.length = n ∧ ∀ j, j < n → ∃ u, cs[j]? = some u ∧ W.cell? (a.add j) = some u := by
  unfold World.cells? at h
  rw [if_pos (Nat.zero_le _)] at h
  have hl := mapM_some_length h
  simp only [List.length_range] at hl
  refine ⟨hl, fun j hj => ?_⟩
  have := mapM_some_get h j j (by rw [List.getElem?_range hj])
  cases hc : cs[j]? with
  | none => rw [List.getElem?_eq_none_iff] at hc; omega
  | some u => rw [hc] at this; exact ⟨u, rfl, this⟩
theorem spot_none {W : World} {a : Addr} {u : Value} (h : W.cell? a = some u) : a.spot = none ∧ a.block < W.heap.size := by
  unfold World.cell? at h
  split at h
  · rename_i c t fr hb
    split at h
    · cases h
    · rename_i hs
      refine ⟨by simpa using hs, ?_⟩
      by_cases hlt : a.block < W.heap.size
      · exact hlt
      · rw [Array.getElem?_eq_none (by omega)] at hb; cases hb
  · cases h
theorem add_none {a : Addr} (h : a.spot = none) (n : Nat) : a.add n = ⟨a.block, a.off + n, none⟩ := by
  obtain ⟨b, o, s⟩ := a
  simp only at h
  subst h
  unfold Addr.add
  split
  · rename_i e; subst e; rfl
  · rfl

theorem encDs_get {Hd : Type} : ∀ (xs : List (DataW Hd × List MemPlace)) (i : Nat) (el : List V), (encDs (xs.map (·.1)))[i]? = some el → ∃ x, xs[i]? = some x ∧ el = encD x.1
  | [], i, el, h => by simp [encDs] at h
  | x :: r, 0, el, h => by simp only [List.map_cons, encDs, List.getElem?_cons_zero, Option.some.injEq] at h; exact ⟨x, rfl, h.symm⟩
  | x :: r, i + 1, el, h => by
    simp only [List.map_cons, encDs, List.getElem?_cons_succ] at h
    simpa using encDs_get r i el h
/-- A slice of so many elements. -/
theorem grow_slice {W : World} (hW : 0 < W.heap.size) {Hd : Type} {rd : List Value → Option (DataW Hd × List MemPlace)} {c : Nat} (hc0 : 0 < c)
    (hrd : ∀ (cs : List Value) (x : DataW Hd × List MemPlace), rd cs = some x → cs.length = c → ∀ g m H, Built W g m H → Grows W g m H fun g' m' => ∃ as_, Same3 g' m' (encD x.1) as_ cs)
    {a : Addr} {len cap : Nat} (hlc : len ≤ cap) {xs rest : List (DataW Hd × List MemPlace)}
    (h : (List.range len).mapM (fun i => (W.cells? 0 (a.add (i * c)) c).bind rd) = some xs) (hr : (List.range (cap - len)).mapM (fun j => (W.cells? 0 (a.add ((len + j) * c)) c).bind rd) = some rest)
    (g : Gh) (m : M) (H : AH) (hb : Built W g m H) : Grows W g m H fun g' m' => ∃ av, VA g' (.vec false (encDs (xs.map (·.1)))) av ∧ VR m' av (.slice (some a) len cap) ∧ av.isCell = true := by
  have hxl := mapM_some_length h
  simp only [List.length_range] at hxl
  -- the cells of each element
  have hcs : ∃ l : List (List Value), l.length = len ∧ (∀ cs ∈ l, cs.length = c) ∧ l.mapM rd = some xs ∧ ∀ i cs, l[i]? = some cs → W.cells? 0 (a.add (i * c)) c = some cs := by
    have hi : ∀ i, i < len → ∃ cs, W.cells? 0 (a.add (i * c)) c = some cs ∧ rd cs = xs[i]? := by
      intro i hi
      have := mapM_some_get h i i (by rw [List.getElem?_range hi])
      cases hcc : W.cells? 0 (a.add (i * c)) c with
      | none =>
        rw [hcc] at this
        have : xs[i]? = none := this.symm
        rw [List.getElem?_eq_none_iff] at this; omega
      | some cs => rw [hcc] at this; exact ⟨cs, rfl, this⟩
    refine ⟨(List.range len).map fun i => (W.cells? 0 (a.add (i * c)) c).getD [], by simp, ?_, ?_, ?_⟩
    · intro cs hm
      obtain ⟨i, hm1, rfl⟩ := List.mem_map.1 hm
      obtain ⟨cs, h1, _⟩ := hi i (List.mem_range.1 hm1)
      rw [h1]; exact (cells_get h1).1
    · refine mapM_some_of_get _ _ (by simp [hxl]) ?_
      intro i cs hcs
      rw [List.getElem?_map] at hcs
      by_cases hl : i < len
      · rw [List.getElem?_range hl] at hcs
        obtain ⟨ds, h1, h2⟩ := hi i hl
        simp only [Option.map_some, Option.some.injEq] at hcs
        rw [h1] at hcs
        simp only [Option.getD_some] at hcs
        rw [← hcs]; exact h2
      · rw [List.getElem?_eq_none (by simp; omega)] at hcs; cases hcs
    · intro i cs hcs
      rw [List.getElem?_map] at hcs
      by_cases hl : i < len
      · rw [List.getElem?_range hl] at hcs
        obtain ⟨ds, h1, h2⟩ := hi i hl
        simp only [Option.map_some, Option.some.injEq] at hcs
        rw [h1] at hcs ⊢
        simp only [Option.getD_some] at hcs
        rw [hcs]
      · rw [List.getElem?_eq_none (by simp; omega)] at hcs; cases hcs
  obtain ⟨l, hll, hlc2, hlm, hlcell⟩ := hcs
  refine (grow_list hrd l xs g m H hlc2 hlm hb).bind fun g1 m1 H1 hb1 hs1 hl1 ⟨ass, k1, k2, k3⟩ => ?_
  -- where it stands
  have hplace : 0 < cap → a.spot = none ∧ a.block < W.heap.size := by
    intro h0
    by_cases hl0 : 0 < len
    · have := hlcell 0 (l[0]'(by omega)) (by simp)
      obtain ⟨u, _, hu⟩ := (cells_get this).2 0 hc0
      simp only [Nat.zero_mul, Addr.add, if_true] at hu
      exact spot_none hu
    · have hl0 : len = 0 := by omega
      subst hl0
      have := mapM_some_get hr 0 0 (by rw [List.getElem?_range (by omega)])
      have hrl := mapM_some_length hr
      simp only [List.length_range] at hrl
      cases hcc : W.cells? 0 (a.add ((0 + 0) * c)) c with
      | none =>
        rw [hcc] at this
        have : rest[0]? = none := this.symm
        rw [List.getElem?_eq_none_iff] at this; omega
      | some cs =>
        obtain ⟨u, _, hu⟩ := (cells_get hcc).2 0 hc0
        simp only [Nat.zero_mul, Nat.add_zero, Addr.add, if_true] at hu
        exact spot_none hu
  have hal : ∀ x ∈ ass, x.length = c := by
    intro x hx
    obtain ⟨i, hi⟩ := List.getElem?_of_mem hx
    have hi' : i < l.length := by
      by_cases hlt : i < l.length
      · exact hlt
      · rw [List.getElem?_eq_none (by omega)] at hi; cases hi
    obtain ⟨x', a', e1, e2, e3⟩ := k3 i l[i] (by simp [hi'])
    rw [hi] at e2
    simp only [Option.some.injEq] at e2
    subst e2
    have := VRs.length e3.vr
    rw [← this]
    exact hlc2 _ (by simp)
  have hflen := flat_len ass hal
  let q : Nat × Nat × Nat := if 0 < cap then (a.block, a.off, cap * c) else (0, 0, 0)
  have hq : q.1 < W.heap.size := by
    show (if 0 < cap then (a.block, a.off, cap * c) else (0, 0, 0)).1 < _
    split
    · rename_i h0; exact (hplace h0).2
    · exact hW
  have hqn : ass.flatten.length ≤ q.2.2 := by
    rw [hflen, k1, hll]
    show _ ≤ (if 0 < cap then (a.block, a.off, cap * c) else (0, 0, 0)).2.2
    split
    · exact Nat.mul_le_mul_right _ hlc
    · rename_i h0
      have : len = 0 := by omega
      subst this; simp
  obtain ⟨hb2, hs2, hl2⟩ := hb1.add (vs := ass.flatten) (q := q) hq hqn (by
    intro j v hj
    have hjl : j < ass.flatten.length := by
      by_cases hlt : j < ass.flatten.length
      · exact hlt
      · rw [List.getElem?_eq_none (by omega)] at hj; cases hj
    rw [hflen, k1, hll] at hjl
    have h0 : 0 < cap := by
      rcases Nat.eq_zero_or_pos cap with e | e
      · have : len = 0 := by omega
        subst this; simp at hjl
      · exact e
    have hi : j / c < len := (Nat.div_lt_iff_lt_mul hc0).2 hjl
    have hmod : j % c < c := Nat.mod_lt _ hc0
    obtain ⟨x, a', e1, e2, e3⟩ := k3 (j / c) (l[j / c]'(by omega)) (by simp [hll, hi])
    have hfa := flat_at ass hal (j / c) a' e2
    have hjv : a'[j % c]? = some v := by
      rw [← hfa, List.getElem?_take, if_pos hmod, List.getElem?_drop]
      rw [show j / c * c + j % c = j by rw [Nat.mul_comm]; exact Nat.div_add_mod j c]
      exact hj
    obtain ⟨u, hu1, hu2⟩ := e3.vr.get (j % c) v hjv
    have hcc := hlcell (j / c) (l[j / c]'(by omega)) (by simp [hll, hi])
    obtain ⟨u', hu3, hu4⟩ := (cells_get hcc).2 (j % c) hmod
    rw [hu3] at hu1
    simp only [Option.some.injEq] at hu1
    subst hu1
    have hsp := (hplace h0).1
    rw [add_none hsp, add_none rfl] at hu4
    refine ⟨List.all_eq_true.1 e3.acell v (List.mem_of_getElem? hjv), u', ?_, hu2⟩
    have hqe : q = (a.block, a.off, cap * c) := if_pos h0
    rw [hqe]
    simp only at hu4 ⊢
    rw [← hu4]
    congr 2
    rw [Nat.add_assoc, show j / c * c + j % c = j by rw [Nat.mul_comm]; exact Nat.div_add_mod j c])
  have hxe : (encDs (xs.map (·.1))).length = len := by
    have : ∀ l : List (DataW Hd), (encDs l).length = l.length := by
      intro l
      induction l with
      | nil => rfl
      | cons d r ih => simp [encDs, ih]
    rw [this, List.length_map, hxl]
  have hget := encDs_get xs
  refine .here' hb2 hs2 hl2 ⟨.slice H1.next 0 len (some cap) c, ?_, ?_, rfl⟩
  · have hv := VA.vec (g := ⟨[], fun b => if b = H1.next then some ass.flatten else g1.C b, g1.U⟩) false (encDs (xs.map (·.1))) H1.next 0 (some cap) c ass.flatten (if_pos rfl) hc0 (by rw [hxe, hflen, k1, hll]; omega)
      (by
        intro i el hi
        obtain ⟨x, h1, rfl⟩ := hget i el hi
        have hil : i < l.length := by
          have := (List.getElem?_eq_some_iff.1 h1).1; omega
        obtain ⟨x', a', e1, e2, e3⟩ := k3 i l[i] (by simp [hil])
        rw [h1] at e1
        simp only [Option.some.injEq] at e1
        subst e1
        refine ⟨?_, e3.cell⟩
        rw [← VAs.length e3.va]
        exact hal a' (List.mem_of_getElem? e2))
      (by
        intro i el hi
        obtain ⟨x, h1, rfl⟩ := hget i el hi
        have hil : i < l.length := by
          have := (List.getElem?_eq_some_iff.1 h1).1; omega
        obtain ⟨x', a', e1, e2, e3⟩ := k3 i l[i] (by simp [hil])
        rw [h1] at e1
        simp only [Option.some.injEq] at e1
        subst e1
        rw [Nat.zero_add, flat_at ass hal i a' e2]
        exact VAs.mono hl2 e3.va)
    rw [hxe] at hv
    exact hv
  · refine .slice H1.next 0 len (some cap) c q.1 q.2.1 q.2.2 a cap (M.upd_same _ _ _) hlc (fun k e => by simpa using e) (fun h0 => ?_)
    have hqe : q = (a.block, a.off, cap * c) := if_pos h0
    rw [hqe]
    refine ⟨?_, by simp⟩
    have := (hplace h0).1
    obtain ⟨b, o, s⟩ := a
    simp only at this
    subst this
    rfl
end Go.Vw
end
section
/- A reading of plain types: the heap to begin with (end). -/
namespace Go.Vw
open Go Go.RowKit Go.Abs

theorem layOK_le {P : Program} : ∀ (fs : List Field) (o tot : Nat), layOK P fs o = some tot → o ≤ tot
  | [], o, tot, h => by simp only [layOK, Option.some.injEq] at h; omega
  | f :: r, o, tot, h => by
    simp only [layOK] at h
    split at h
    · have := layOK_le r _ _ h; omega
    · cases h
theorem bytes_eta (s : ByteArray) : (⟨s.data.toList.toArray⟩ : ByteArray) = s := by
  cases s; simp
theorem grow_fields {W : World} {Hd : Type} {P : Program} {rd : TypeId → List Value → Option (DataW Hd × List MemPlace)} {cs : List Value} {tot : Nat} (hcs : cs.length = tot) :
    ∀ (fs : List Field) (o : Nat) (xs : List (DataW Hd × List MemPlace)) (g : Gh) (m : M) (H : AH),
      (∀ f ∈ fs, ∀ (cs : List Value) (x : DataW Hd × List MemPlace), rd f.type cs = some x → cs.length = P.cellsOf f.type → ∀ g m H, Built W g m H → Grows W g m H fun g' m' => ∃ as_, Same3 g' m' (encD x.1) as_ cs) →
      layOK P fs o = some tot → fs.mapM (fun f => rd f.type ((cs.drop f.offset).take (P.cellsOf f.type))) = some xs → Built W g m H →
      Grows W g m H fun g' m' => ∃ as_, Same3 g' m' (encDs (xs.map (·.1))).flatten as_ (cs.drop o)
  | [], o, xs, g, m, H, _, hl, h, hb => by
    simp only [layOK, Option.some.injEq] at hl
    simp only [List.mapM_nil, Option.pure_def, Option.some.injEq] at h
    subst h
    refine .here hb ⟨[], ?_⟩
    rw [List.drop_eq_nil_of_le (by omega)]
    exact ⟨.nil, .nil, rfl, rfl⟩
  | f :: r, o, xs, g, m, H, hf, hl, h, hb => by
    simp only [layOK] at hl
    split at hl
    · rename_i ho
      have hle := layOK_le r _ _ hl
      obtain ⟨y, ys, h1, h2, rfl⟩ := mapM_cons_some h
      refine (hf f List.mem_cons_self _ y h1 (by simp; omega) g m H hb).bind fun g1 m1 H1 hb1 hs1 hl1 ⟨a, ha⟩ => ?_
      refine (grow_fields hcs r (o + P.cellsOf f.type) ys g1 m1 H1 (fun z hz => hf z (List.mem_cons_of_mem _ hz)) hl h2 hb1).mono fun g2 m2 hs2 hl2 ⟨a2, k⟩ => ?_
      refine ⟨a ++ a2, ?_⟩
      have e : cs.drop o = (cs.drop f.offset).take (P.cellsOf f.type) ++ cs.drop (o + P.cellsOf f.type) := by
        rw [ho, ← List.drop_drop, List.take_append_drop]
      rw [e]
      simp only [List.map_cons, encDs, List.flatten_cons]
      exact (ha.mono hs2 hl2).append k
    · cases hl
theorem grow {W : World} (hW : 0 < W.heap.size) {Hd : Type} {enc : TypeId × Value → Hd} {P : Program} : ∀ (n : Nat) (t : TypeId), plainTy P n t = true → ∀ (fuel : Nat) (cs : List Value) (x : DataW Hd × List MemPlace),
    DataW.trod enc P W 0 (fun _ => true) true fuel t cs = some x → cs.length = P.cellsOf t → ∀ g m H, Built W g m H → Grows W g m H fun g' m' => ∃ as_, Same3 g' m' (encD x.1) as_ cs
  | 0, t, hp, _, _, _, _, _, _, _, _, _ => by simp [plainTy] at hp
  | n + 1, t, hp, 0, cs, x, h, _, _, _, _, _ => by simp [DataW.trod] at h
  | n + 1, t, hp, fuel + 1, cs, x, h, hlen, g, m, H, hb => by
    rw [plainTy] at hp
    have hone : P.cellsOf t = 1 → ∃ v, cs = [v] := by
      intro h1
      rw [h1] at hlen
      match cs, hlen with
      | [v], _ => exact ⟨v, rfl⟩
    split at hp
    · rename_i hu
      obtain ⟨v, rfl⟩ := hone (by simpa using hp)
      unfold DataW.trod at h
      rw [hu] at h
      cases v <;> try (simp only [reduceCtorEq] at h; done)
      rename_i b
      simp only [Option.some.injEq] at h
      subst h
      exact .here hb ⟨[.bool b], .one (.bool _) (.bool _) rfl rfl⟩
    · rename_i k hu
      obtain ⟨v, rfl⟩ := hone (by simpa using hp)
      unfold DataW.trod at h
      rw [hu] at h
      cases v <;> try (simp only [reduceCtorEq] at h; done)
      rename_i k' z
      simp only at h
      split at h
      · rename_i hk
        simp only [Option.some.injEq] at h
        subst h
        obtain ⟨rfl, _⟩ := hk
        exact .here hb ⟨[.int k' z], .one (.int _ _) (.int _ _) rfl rfl⟩
      · cases h
    · rename_i hu
      obtain ⟨v, rfl⟩ := hone (by simpa using hp)
      unfold DataW.trod at h
      rw [hu] at h
      cases v <;> try (simp only [reduceCtorEq] at h; done)
      rename_i s
      simp only at h
      split at h
      · simp only [Option.some.injEq] at h
        subst h
        have hv : VR m (.str s.data.toList) (.string s) := by
          have := VR.str (m := m) s.data.toList
          rw [bytes_eta] at this
          exact this
        exact .here hb ⟨[.str s.data.toList], .one (.str _) hv rfl rfl⟩
      · cases h
    · rename_i e hu
      simp only [Bool.and_eq_true, beq_iff_eq, decide_eq_true_eq] at hp
      obtain ⟨v, rfl⟩ := hone hp.1
      unfold DataW.trod at h
      rw [hu] at h
      cases v <;> try (simp only [reduceCtorEq] at h; done)
      rename_i oa len cap
      cases oa with
      | none =>
        cases len with
        | succ len => simp only [reduceCtorEq] at h
        | zero =>
          cases cap with
          | succ cap => simp only [reduceCtorEq] at h
          | zero =>
            simp only [Option.some.injEq] at h
            subst h
            exact .here hb ⟨[.nils], .one (.nils _) .nils rfl rfl⟩
      | some a =>
        simp only at h
        split at h
        · rename_i hc
          simp only [Option.bind_eq_some_iff, if_true, Option.map_eq_some_iff] at h
          obtain ⟨xs, h1, rest, h2, rfl⟩ := h
          refine (grow_slice hW hp.2.1 (fun cs x hx hl => grow hW n e hp.2.2 fuel cs x hx hl) hc.2.1 h1 h2 g m H hb).mono fun g' m' _ _ ⟨av, k1, k2, k3⟩ => ?_
          exact ⟨[av], .one k1 k2 rfl k3⟩
        · cases h
    · rename_i fs hu
      simp only [Bool.and_eq_true, beq_iff_eq, List.all_eq_true] at hp
      unfold DataW.trod at h
      rw [hu] at h
      simp only [hlen, if_true, Option.map_eq_some_iff] at h
      obtain ⟨xs, h1, rfl⟩ := h
      refine (grow_fields (rd := DataW.trod enc P W 0 (fun _ => true) true fuel) hlen fs.toList 0 xs g m H (fun f hf cs x hx hl => grow hW n f.type (hp.1 f hf) fuel cs x hx hl) hp.2 h1 hb).mono fun g' m' _ _ ⟨a, k⟩ => ?_
      exact ⟨a, k⟩
    · cases hp
end Go.Vw
end
section
/- What a reading of plain types looks like. -/
namespace Go.Vw
open Go Go.RowKit Go.Abs
section
variable {W : World} {Hd : Type} {enc : TypeId × Value → Hd} {P : Program} {fuel : Nat} {t : TypeId} {cs : List Value} {x : DataW Hd × List MemPlace}
theorem d_int {k : IntKind} (hu : P.underlying t = some (.int k)) (h : DataW.trod enc P W 0 (fun _ => true) true fuel t cs = some x) : ∃ z, x.1 = .lit (.int k z) := by
  cases fuel with
  | zero => simp [DataW.trod] at h
  | succ fuel =>
    unfold DataW.trod at h
    rw [hu] at h
    match cs, h with
    | [], h => simp at h
    | [v], h =>
      cases v <;> try (simp only [reduceCtorEq] at h; done)
      simp only at h
      split at h
      · simp only [Option.some.injEq] at h; subst h; exact ⟨_, rfl⟩
      · cases h
    | _ :: _ :: _, h => simp at h
theorem d_bool (hu : P.underlying t = some .bool) (h : DataW.trod enc P W 0 (fun _ => true) true fuel t cs = some x) : ∃ z, x.1 = .lit (.bool z) := by
  cases fuel with
  | zero => simp [DataW.trod] at h
  | succ fuel =>
    unfold DataW.trod at h
    rw [hu] at h
    match cs, h with
    | [], h => simp at h
    | [v], h =>
      cases v <;> try (simp only [reduceCtorEq] at h; done)
      simp only [Option.some.injEq] at h; subst h; exact ⟨_, rfl⟩
    | _ :: _ :: _, h => simp at h
theorem d_str (hu : P.underlying t = some .string) (h : DataW.trod enc P W 0 (fun _ => true) true fuel t cs = some x) : ∃ s : ByteArray, x.1 = .lit (.string s.data.toList) ∧ s.size ≤ maxLen ∧ cs = [.string s] := by
  cases fuel with
  | zero => simp [DataW.trod] at h
  | succ fuel =>
    unfold DataW.trod at h
    rw [hu] at h
    match cs, h with
    | [], h => simp at h
    | [v], h =>
      cases v <;> try (simp only [reduceCtorEq] at h; done)
      simp only at h
      split at h
      · rename_i hs
        simp only [Option.some.injEq] at h; subst h; exact ⟨_, rfl, hs, rfl⟩
      · cases h
    | _ :: _ :: _, h => simp at h
theorem d_slice {e : TypeId} (hu : P.underlying t = some (.slice e)) (h : DataW.trod enc P W 0 (fun _ => true) true fuel t cs = some x) :
    x.1 = .nil ∨ ∃ (xs : List (DataW Hd × List MemPlace)) (spare : List (DataW Hd)), x.1 = .slice (xs.map (·.1)) spare ∧ ∀ y ∈ xs, ∃ fuel' cs', DataW.trod enc P W 0 (fun _ => true) true fuel' e cs' = some y := by
  cases fuel with
  | zero => simp [DataW.trod] at h
  | succ fuel =>
    unfold DataW.trod at h
    rw [hu] at h
    match cs, h with
    | [], h => simp at h
    | [v], h =>
      cases v <;> try (simp only [reduceCtorEq] at h; done)
      rename_i oa len cap
      cases oa with
      | none =>
        cases len with
        | succ len => simp only [reduceCtorEq] at h
        | zero =>
          cases cap with
          | succ cap => simp only [reduceCtorEq] at h
          | zero => simp only [Option.some.injEq] at h; subst h; exact .inl rfl
      | some a =>
        simp only at h
        split at h
        · simp only [Option.bind_eq_some_iff, if_true, Option.map_eq_some_iff] at h
          obtain ⟨xs, h1, rest, h2, rfl⟩ := h
          refine .inr ⟨xs, _, rfl, fun y hy => ?_⟩
          obtain ⟨i, _, h3⟩ := mapM_mem_of h1 y hy
          rw [Option.bind_eq_some_iff] at h3
          obtain ⟨cs', _, h4⟩ := h3
          exact ⟨fuel, cs', h4⟩
        · cases h
    | _ :: _ :: _, h => simp at h
theorem d_struct {fs : Array Field} (hu : P.underlying t = some (.struct fs)) (h : DataW.trod enc P W 0 (fun _ => true) true fuel t cs = some x) :
    ∃ (xs : List (DataW Hd × List MemPlace)) (fuel' : Nat), x.1 = .agg (xs.map (·.1)) ∧ fs.toList.mapM (fun f => DataW.trod enc P W 0 (fun _ => true) true fuel' f.type ((cs.drop f.offset).take (P.cellsOf f.type))) = some xs := by
  cases fuel with
  | zero => simp [DataW.trod] at h
  | succ fuel =>
    unfold DataW.trod at h
    rw [hu] at h
    simp only at h
    split at h
    · simp only [Option.map_eq_some_iff] at h
      obtain ⟨xs, h1, rfl⟩ := h
      exact ⟨xs, fuel, rfl, h1⟩
    · cases h
/-- A slice of things that are told by their encoding. -/
theorem d_list {e : TypeId} {α : Type} {en : α → List V} {R : α → DataW Hd → Prop} (hu : P.underlying t = some (.slice e))
    (he : ∀ (fuel : Nat) (cs : List Value) (y : DataW Hd × List MemPlace), DataW.trod enc P W 0 (fun _ => true) true fuel e cs = some y → ∃ a, encD y.1 = en a ∧ R a y.1)
    (h : DataW.trod enc P W 0 (fun _ => true) true fuel t cs = some x) :
    ∃ l : List α, encD x.1 = [.vec false (l.map en)] ∧ (x.1 = .nil ∧ l = [] ∨ ∃ (ds spare : List (DataW Hd)), x.1 = .slice ds spare ∧ ds.length = l.length ∧ ∀ (i : Nat) (a : α), l[i]? = some a → ∃ d, ds[i]? = some d ∧ R a d) := by
  rcases d_slice hu h with hx | ⟨xs, spare, hx, hy⟩
  · rw [hx]
    exact ⟨[], rfl, .inl ⟨rfl, rfl⟩⟩
  · rw [hx]
    have : ∃ l : List α, encDs (xs.map (·.1)) = l.map en ∧ (xs.map (·.1)).length = l.length ∧ ∀ (i : Nat) (a : α), l[i]? = some a → ∃ d, (xs.map (·.1))[i]? = some d ∧ R a d := by
      clear hx h
      induction xs with
      | nil => exact ⟨[], rfl, rfl, fun i a e => by simp at e⟩
      | cons y xs ih =>
        obtain ⟨fuel', cs', hr⟩ := hy y List.mem_cons_self
        obtain ⟨a, h1, h2⟩ := he fuel' cs' y hr
        obtain ⟨l, k1, k2, k3⟩ := ih (fun z hz => hy z (List.mem_cons_of_mem _ hz))
        refine ⟨a :: l, by simp only [List.map_cons, encDs, h1, k1], by simpa using k2, fun i b e => ?_⟩
        cases i with
        | zero => simp only [List.getElem?_cons_zero, Option.some.injEq] at e; subst e; exact ⟨y.1, rfl, h2⟩
        | succ i => simpa using k3 i b (by simpa using e)
    obtain ⟨l, k1, k2, k3⟩ := this
    refine ⟨l, ?_, .inr ⟨_, spare, rfl, k2, k3⟩⟩
    rw [encD, k1]
end
end Go.Vw
end
section
/- The arguments of this seat's laws. -/
namespace Go.Proofs.Ytdjmfiofdceodaa
open Go Go.RowKit Go.Abs Go.Vw Go.Vw.Wm
section
variable {W : World} {Hd : Type} {enc : TypeId × Value → Hd} {fuel : Nat} {cs : List Value} {x : DataW Hd × List MemPlace}
theorem bulk_mem {d : DataW Hd} : ∀ {l : List (DataW Hd)}, d ∈ l → Rows.uptoBulk d ≤ Rows.uptoBulkAll l
  | [], h => by cases h
  | x :: r, h => by
    simp only [Rows.uptoBulkAll]
    rcases List.mem_cons.1 h with rfl | h
    · omega
    · have := bulk_mem h; omega
theorem d_word (h : DataW.trod enc Try.prog W 0 (fun _ => true) true fuel 9 cs = some x) : ∃ w : Lx.Str, encD x.1 = wordCell w ∧ w.length + 1 ≤ Rows.uptoBulk x.1 := by
  obtain ⟨s, h1, _⟩ := d_str Try.underlying9 h
  rw [h1]
  exact ⟨s.data.toList, rfl, by simp [Rows.uptoBulk]⟩
theorem d_words (h : DataW.trod enc Try.prog W 0 (fun _ => true) true fuel 30 cs = some x) : ∃ ws : List Lx.Str, encD x.1 = [.vec false (ws.map wordCell)] ∧ (ws.map fun w => w.length + 1).sum ≤ Rows.uptoBulk x.1 := by
  obtain ⟨l, h1, h2⟩ := d_list (en := wordCell) (R := fun w d => w.length + 1 ≤ Rows.uptoBulk d) Try.underlying30 (fun _ _ _ h => d_word h) h
  refine ⟨l, h1, ?_⟩
  rcases h2 with ⟨h2, rfl⟩ | ⟨ds, spare, h2, h3, h4⟩
  · simp
  · rw [h2]
    simp only [Rows.uptoBulk]
    have : ∀ (l : List Lx.Str) (ds : List (DataW Hd)), ds.length = l.length → (∀ (i : Nat) (a : Lx.Str), l[i]? = some a → ∃ d, ds[i]? = some d ∧ a.length + 1 ≤ Rows.uptoBulk d) → (l.map fun w => w.length + 1).sum ≤ Rows.uptoBulkAll ds := by
      intro l
      induction l with
      | nil => intro ds _ _; simp
      | cons w l ih =>
        intro ds hl hd
        cases ds with
        | nil => simp at hl
        | cons d ds =>
          obtain ⟨d', e1, e2⟩ := hd 0 w rfl
          simp only [List.getElem?_cons_zero, Option.some.injEq] at e1
          subst e1
          have := ih ds (by simpa using hl) (fun i a e => by simpa using hd (i + 1) a (by simpa using e))
          simp only [List.map_cons, List.sum_cons, Rows.uptoBulkAll]
          omega
    have := this l ds h3 h4
    omega
theorem d_spot (h : DataW.trod enc Try.prog W 0 (fun _ => true) true fuel 24 cs = some x) : ∃ p : Lx.Pos, encD x.1 = encP p ∧ True := by
  obtain ⟨xs, fuel', h1, h2⟩ := d_struct Try.underlying24 h
  obtain ⟨y, ys, k1, k2, rfl⟩ := mapM_cons_some h2
  obtain ⟨z, zs, k3, k4, rfl⟩ := mapM_cons_some k2
  simp only [List.mapM_nil, Option.pure_def, Option.some.injEq] at k4
  subst k4
  obtain ⟨a, e1⟩ := d_int Try.underlying3 k1
  obtain ⟨b, e2⟩ := d_int Try.underlying3 k3
  refine ⟨⟨a, b⟩, ?_, trivial⟩
  rw [h1]
  simp [encD, encDs, e1, e2, encP]
theorem d_spots (h : DataW.trod enc Try.prog W 0 (fun _ => true) true fuel 31 cs = some x) : ∃ ps : List Lx.Pos, encD x.1 = [.vec false (ps.map encP)] := by
  obtain ⟨l, h1, _⟩ := d_list (en := encP) (R := fun _ _ => True) Try.underlying31 (fun _ _ _ h => d_spot h) h
  exact ⟨l, h1⟩
theorem d_row (h : DataW.trod enc Try.prog W 0 (fun _ => true) true fuel 52 cs = some x) : ∃ r : Row, encD x.1 = encRow r ∧ (r.words.map fun w => w.length + 1).sum ≤ Rows.uptoBulk x.1 := by
  obtain ⟨xs, fuel', h1, h2⟩ := d_struct Try.underlying52 h
  obtain ⟨y, ys, k1, k2, rfl⟩ := mapM_cons_some h2
  obtain ⟨z, zs, k3, k4, rfl⟩ := mapM_cons_some k2
  obtain ⟨u, us, k5, k6, rfl⟩ := mapM_cons_some k4
  obtain ⟨v, vs, k7, k8, rfl⟩ := mapM_cons_some k6
  simp only [List.mapM_nil, Option.pure_def, Option.some.injEq] at k8
  subst k8
  obtain ⟨a, e1⟩ := d_int Try.underlying3 k1
  obtain ⟨ws, e2, e3⟩ := d_words k3
  obtain ⟨ps, e4⟩ := d_spots k5
  obtain ⟨b, e5⟩ := d_bool Try.underlying4 k7
  refine ⟨⟨a, ws, ps, b⟩, ?_, ?_⟩
  · rw [h1]
    simp [encD, encDs, e1, e2, e4, e5, encRow]
  · rw [h1]
    simp only [Rows.uptoBulk, List.map_cons, Rows.uptoBulkAll]
    omega
theorem d_rows (h : DataW.trod enc Try.prog W 0 (fun _ => true) true fuel 38 cs = some x) : ∃ l : List Row, encD x.1 = [.vec false (l.map encRow)] ∧ ∀ r ∈ l, (r.words.map fun w => w.length + 1).sum ≤ Rows.uptoBulk x.1 := by
  obtain ⟨l, h1, h2⟩ := d_list (en := encRow) (R := fun r d => (r.words.map fun w => w.length + 1).sum ≤ Rows.uptoBulk d) Try.underlying38 (fun _ _ _ h => d_row h) h
  refine ⟨l, h1, ?_⟩
  rcases h2 with ⟨h2, rfl⟩ | ⟨ds, spare, h2, h3, h4⟩
  · intro r hr; cases hr
  · intro r hr
    obtain ⟨i, hi⟩ := List.getElem?_of_mem hr
    obtain ⟨d, e1, e2⟩ := h4 i r hi
    rw [h2]
    simp only [Rows.uptoBulk]
    have := bulk_mem (List.mem_of_getElem? e1)
    omega
theorem words_3 (ws : List Lx.Str) : (ws.map fun w => w.length + 3).sum ≤ 3 * (ws.map fun w => w.length + 1).sum := by
  induction ws with
  | nil => simp
  | cons w ws ih => simp only [List.map_cons, List.sum_cons]; omega
end
end Go.Proofs.Ytdjmfiofdceodaa
end
