import Derived.Test.YtdjmfiofdceodaaW2
set_option linter.unusedVariables false
set_option linter.unusedSimpArgs false
set_option linter.unusedSectionVars false
section
/- Each operation that is no call. -/
namespace Go.Vw
open Go Go.RowKit Go.Abs

section
variable {P : Program} {g : Gh} {H : AH} {Pr : Nat → Prop} {σ : St} {ρ : VEnv} {ρA : Env} {call : CallF} {fl : Nat}

theorem Fr.le {g1 : Gh} {H' : AH} (h : Fr g1 Pr σ fl H H') (hl : g.Le g1) : Fr g Pr σ fl H H' := ⟨h.pr, fun o b h1 h2 => h.fl o b h1 ⟨hl.blk _ _ h2.1, h2.2⟩, h.next, h.ty⟩

theorem slice_sim {tk : Bool} {c : Cx} (hE : ER g H Pr ρ ρA) (hS : SR g Pr σ H) {t : TypeId} {x : Operand} {lo hi mx : Option Operand} {v : V} {ρ1 : VEnv} {σ1 : St} (h : vOp c tk ρ (.slice t x lo hi mx) σ = some (v, ρ1, σ1)) : OpSim c.P call g Pr σ c.fl H ρA (.slice t x lo hi mx) v ρ1 σ1 := by
  have hx := evalV_VA hE x
  cases mx with
  | some mx => simp [vOp] at h
  | none =>
    simp only [vOp] at h
    split at h
    · rename_i s hu hxe
      rw [hxe] at hx
      generalize hq : evalE ρA x = xa at hx
      cases hx
      simp only [Option.map_eq_some_iff, Prod.mk.injEq] at h
      obtain ⟨w, hw, rfl, rfl, rfl⟩ := h
      unfold cutStrV at hw
      split at hw
      · rename_i k l hb1 hb2
        split at hw
        · rename_i hle
          simp only [Option.some.injEq] at hw
          subst hw
          refine quietS (a := .str ((s.drop l).take (k - l))) hE hS ?_ (.str _) (OwnV.scalar (fun _ e => by cases e) rfl)
          simp only [evOpE, hu, hq, Option.isSome_none, Bool.false_eq_true, if_false, cutStr, bound_sim (opt_VA hE hi) hb1, bound_sim (opt_VA hE lo) hb2]
          rw [if_pos hle]; rfl
        · cases hw
      · cases hw
    · rename_i e own els hu hxe
      rw [hxe] at hx
      generalize hq : evalE ρA x = xa at hx
      split at h
      · rename_i s hs
        split at h
        · rename_i hall
          simp only [Option.map_eq_some_iff, Prod.mk.injEq] at h
          obtain ⟨w, hw, rfl, rfl, rfl⟩ := h
          unfold cutV at hw
          split at hw
          · rename_i k l hb1 hb2
            split at hw
            · rename_i hle
              simp only [Option.some.injEq] at hw
              subst hw
              have hbl := bound_sim (opt_VA hE lo) hb2
              cases hx with
              | nils _ =>
                have hk : k = 0 := by simpa using hle.1
                have hl : l = 0 := by omega
                subst hk; subst hl
                have hbh := bound_sim (opt_VA hE hi) hb1
                refine quietS (a := .nils) hE hS ?_ (by simpa using VA.nils false) (OwnV.scalar (fun _ e => by cases e) rfl)
                simp only [List.length_nil] at hbh
                simp only [evOpE, hu, hq, hs, hbh, hbl]
              | vec _ _ b off cap esz vs h1 h2 h3 h4 h5 =>
                have hbh := bound_sim (opt_VA hE hi) hb1
                have hse : s = esz ∨ els.length = 0 := by
                  cases els with
                  | nil => exact .inr rfl
                  | cons el r =>
                    left
                    have := List.all_eq_true.1 hall el List.mem_cons_self
                    rw [← (h4 0 el rfl).1]
                    exact (by simpa using this : el.length = s).symm
                refine quietS (a := .slice b (off + l * esz) (k - l) (cap.map (· - l)) esz) hE hS ?_ (cut_VA (VA.vec own els b off cap esz vs h1 h2 h3 h4 h5) hle.1 hle.2) (OwnV.scalar (fun _ e => by cases e) rfl)
                simp only [evOpE, hu, hq, hs, hse, if_true, cutSl, hbh, hbl, Option.map_none]
                rw [if_pos hle]; rfl
            · cases hw
          · cases hw
        · cases h
      · cases h
    · rename_i e o off len cap esz hu hxe
      rw [hxe] at hx
      generalize hq : evalE ρA x = xa at hx
      cases hx with
      | sl _ _ _ b _ _ hb =>
      split at h
      · rename_i hsz
        simp only [Option.map_eq_some_iff, Prod.mk.injEq] at h
        obtain ⟨w, hw, rfl, rfl, rfl⟩ := h
        unfold cutSlV at hw
        split at hw
        · rename_i k l hb1 hb2
          split at hw
          · rename_i hle
            simp only [Option.some.injEq] at hw
            subst hw
            refine quietS (a := .slice b (off + l * esz) (k - l) (cap.map (· - l)) esz) hE hS ?_ (.sl _ _ _ _ _ _ hb) (OwnV.scalar (fun _ e => by cases e) rfl)
            simp only [evOpE, hu, hq, hsz, true_or, if_true, cutSl, bound_sim (opt_VA hE hi) hb1, bound_sim (opt_VA hE lo) hb2, Option.map_none]
            rw [if_pos hle]; rfl
          · cases hw
        · cases hw
      · cases h
    · cases h

theorem noown_cells {v : V} {a : AV} {p : Nat → Pos} (hv : VA g v a) (h : ∀ x ∈ v.cells, x.strip1 = x) : OwnV g H Pr p v a := by
  refine OwnV.noown (fun els hm => ?_)
  have := h _ hm
  simp [V.strip1] at this
theorem asVal_stripped {t : TypeId} {vs : List V} {o : Nat} {v : V} (hc : ∀ x ∈ vs, x.strip1 = x ∧ x.isCell = true) (h : asVal P t vs o = some v) : ∀ x ∈ v.cells, x.strip1 = x := by
  unfold asVal at h
  split at h
  · split at h
    · rename_i n hn
      cases e : cutC vs o n with
      | none => rw [e] at h; cases h
      | some l =>
        rw [e] at h
        simp only [Option.map_some, Option.some.injEq] at h
        subst h
        obtain ⟨_, rfl⟩ := cutC_some e
        intro x hx
        exact (hc x (List.mem_of_mem_drop (List.mem_of_mem_take hx))).1
    · cases h
  · split at h
    · rename_i v' e
      simp only [Option.some.injEq] at h
      subst h
      obtain ⟨_, h2⟩ := cutC_some e
      have hm : v' ∈ vs := List.mem_of_mem_drop (i := o) (List.mem_of_mem_take (i := 1) (by rw [← h2]; exact List.mem_singleton.2 rfl))
      intro x hx
      have hcv := (hc v' hm).2
      have : v'.cells = [v'] := by cases v' <;> first | rfl | simp [V.isCell] at hcv
      rw [this] at hx
      rw [List.mem_singleton.1 hx]
      exact (hc v' hm).1
    · cases h
  · cases h
theorem field_sim (hE : ER g H Pr ρ ρA) (hS : SR g Pr σ H) {t : TypeId} {x : Operand} {i : Nat} {vs : List V} {k : Nat} {ft : TypeId} {v : V} (hx : evalC ρ x = .agg vs) (hf : tField P t i = some (k, ft)) (h : asVal P ft vs k = some v) : OpSim P call g Pr σ fl H ρA (.field t x i) v.strip ρ σ := by
  have hxv := evalC_VA hE x
  rw [hx] at hxv
  generalize hq : evalE ρA x = xa at hxv
  cases hxv with
  | agg _ as hv =>
  obtain ⟨a, h1, h2⟩ := part_sim hv k h
  refine quietS (a := a) hE hS ?_ h2.strip OwnV.strip
  simp only [evOpE, hq, hf]
  cases hag : tAgg P ft with
  | none => rw [hag] at h1; simp at h1
  | some ag =>
    rw [hag] at h1
    cases ag with
    | true =>
      cases hn : tSize P ft with
      | none => rw [hn] at h1; simp at h1
      | some n =>
        rw [hn] at h1
        simp only at h1 ⊢
        split at h1
        · rename_i hle
          rw [if_pos hle]
          simp only [Option.some.injEq] at h1
          rw [h1]
        · cases h1
    | false =>
      simp only at h1 ⊢
      rw [h1]
theorem index_sim (hE : ER g H Pr ρ ρA) (hS : SR g Pr σ H) {t e : TypeId} {x i : Operand} {n s k : Nat} {vs : List V} {v : V} (hu : P.underlying t = some (.array n e)) (hx : evalC ρ x = .agg vs) (hi : natOfV (evalV ρ i) = some k) (hs : tSize P e = some s) (hk : k < n) (h : asVal P e vs (k * s) = some v) : OpSim P call g Pr σ fl H ρA (.index t x i) v.strip ρ σ := by
  have hxv := evalC_VA hE x
  rw [hx] at hxv
  generalize hq : evalE ρA x = xa at hxv
  cases hxv with
  | agg _ as hv =>
  obtain ⟨a, h1, h2⟩ := part_sim hv (k * s) h
  have hni := natOf_sim (evalV_VA hE i) hi
  refine quietS (a := a) hE hS ?_ h2.strip OwnV.strip
  simp only [evOpE, hq, hu, hni]
  rw [hs] at h1
  cases hag : tAgg P e with
  | none => rw [hag] at h1; simp at h1
  | some ag =>
    rw [hag] at h1
    cases ag with
    | true =>
      simp only [hs] at h1 ⊢
      split at h1
      · rename_i hle
        rw [if_pos ⟨hk, hle⟩]
        simp only [Option.some.injEq] at h1
        rw [h1]
      · cases h1
    | false =>
      simp only [hs] at h1 ⊢
      rw [if_pos hk, h1]

theorem vOp_sim {tk : Bool} {c : Cx} (hE : ER g H Pr ρ ρA) (hS : SR g Pr σ H) {o : Op} {v : V} {ρ1 : VEnv} {σ1 : St} (h : vOp c tk ρ o σ = some (v, ρ1, σ1)) : OpSim c.P call g Pr σ c.fl H ρA o v ρ1 σ1 := by
  cases o with
  | move x =>
    simp only [vOp, Option.some.injEq, Prod.mk.injEq] at h
    obtain ⟨rfl, rfl, rfl⟩ := h
    exact grabS hE hS rfl
  | assign x =>
    simp only [vOp, Option.some.injEq, Prod.mk.injEq] at h
    obtain ⟨rfl, rfl, rfl⟩ := h
    exact grabS hE hS rfl
  | pick b x y =>
    simp only [vOp] at h
    split at h
    · rename_i t hb
      simp only [Option.some.injEq, Prod.mk.injEq] at h
      obtain ⟨rfl, rfl, rfl⟩ := h
      have hbv := evalV_VA hE b
      rw [hb] at hbv
      generalize hq : evalE ρA b = ba at hbv
      cases hbv
      cases t
      · exact quietS (a := evalE ρA y) hE hS (by simp only [evOpE, hq]; rfl) (evalC_VA hE y) OwnV.strip
      · exact quietS (a := evalE ρA x) hE hS (by simp only [evOpE, hq]; rfl) (evalC_VA hE x) OwnV.strip
    · cases h
  | alloc t =>
    simp only [vOp] at h
    split at h
    · rename_i hB
      split at h
      · rename_i u hz hu
        simp only [Option.some.injEq, Prod.mk.injEq] at h
        obtain ⟨rfl, rfl, rfl⟩ := h
        exact bld_sim hE hS u hB hz
      · cases h
    · rename_i hB
      split at h
      · rename_i cs hz
        split at h
        · rename_i hc
          simp only [Option.some.injEq, Prod.mk.injEq] at h
          obtain ⟨rfl, rfl, rfl⟩ := h
          exact alloc_sim hE hS hB hz hc
        · cases h
      · cases h
  | box t x =>
    simp only [vOp] at h
    split at h
    · rename_i hi
      simp only [Option.some.injEq, Prod.mk.injEq] at h
      obtain ⟨rfl, rfl, rfl⟩ := h
      exact box_sim hE hS hi
    · cases h
  | build t parts => exact build_sim hE hS h
  | buildSlice t len parts => exact buildSlice_sim hE hS h
  | load t a =>
    simp only [vOp] at h
    split at h
    · rename_i o off ha
      split at h
      · rename_i vs hs
        split at h
        · rename_i w hw
          split at h
          · split at h
            · simp only [Option.some.injEq, Prod.mk.injEq] at h
              obtain ⟨rfl, rfl, rfl⟩ := h
              exact loadTk_sim hE hS ha hs hw
            · cases h
          · simp only [Option.some.injEq, Prod.mk.injEq] at h
            obtain ⟨rfl, rfl, rfl⟩ := h
            exact load_sim hE hS ha hs hw
        · cases h
      · cases h
    · rename_i vs off ha
      simp only [Option.map_eq_some_iff, Prod.mk.injEq] at h
      obtain ⟨w, hw, rfl, rfl, rfl⟩ := h
      exact loadRo_sim hE hS ha hw
    · cases h
  | store t a x =>
    simp only [vOp] at h
    split at h
    · rename_i o off ha
      split at h
      · rename_i vs hs
        split at h
        · rename_i hc
          simp only [Option.some.injEq, Prod.mk.injEq] at h
          obtain ⟨rfl, rfl, rfl⟩ := h
          exact store_sim hE hS ha hs hc.1 hc.2.1 hc.2.2.1 hc.2.2.2
        · cases h
      · cases h
    · cases h
  | nilCheck x =>
    have hx := evalC_VA hE x
    simp only [vOp] at h
    split at h
    · rename_i o off hxe
      simp only [Option.some.injEq, Prod.mk.injEq] at h
      obtain ⟨rfl, rfl, rfl⟩ := h
      rw [hxe] at hx
      generalize hq : evalE ρA x = xa at hx
      cases hx with
      | ptr _ _ b hb => exact quietS (a := .ptr b off) hE hS (by simp only [evOpE, hq]) (.ptr _ _ _ hb) (OwnV.scalar (fun _ e => by cases e) rfl)
    · rename_i vs off hxe
      simp only [Option.some.injEq, Prod.mk.injEq] at h
      obtain ⟨rfl, rfl, rfl⟩ := h
      rw [hxe] at hx
      generalize hq : evalE ρA x = xa at hx
      cases hx with
      | ro _ _ b base ws h1 h2 h3 h4 => exact quietS (a := .ptr b (base + off)) hE hS (by simp only [evOpE, hq]) (.ro _ _ _ _ _ h1 h2 h3 h4) (OwnV.scalar (fun _ e => by cases e) rfl)
    · rename_i f a b hxe
      simp only [Option.some.injEq, Prod.mk.injEq] at h
      obtain ⟨rfl, rfl, rfl⟩ := h
      rw [hxe] at hx
      generalize hq : evalE ρA x = xa at hx
      cases hx with
      | func _ _ _ c1 c2 h1 h2 => exact quietS (a := .func f c1 c2) hE hS (by simp only [evOpE, hq]) (.func _ _ _ _ _ h1 h2) (OwnV.scalar (fun _ e => by cases e) rfl)
    · cases h
  | binOp op t x y ty =>
    simp only [vOp, Option.map_eq_some_iff, Prod.mk.injEq] at h
    obtain ⟨w, hw, rfl, rfl, rfl⟩ := h
    obtain ⟨a, h1, h2, h3⟩ := bin_sim (H := H) (Pr := Pr) (evalV_VA hE x) (evalV_VA hE y) hw
    exact quietS (a := a) hE hS (by simp only [evOpE, h1, Option.map_some]) h2 h3
  | unOp op t x =>
    simp only [vOp, Option.map_eq_some_iff, Prod.mk.injEq] at h
    obtain ⟨w, hw, rfl, rfl, rfl⟩ := h
    obtain ⟨a, h1, h2, h3⟩ := un_sim (H := H) (Pr := Pr) (evalV_VA hE x) hw
    exact quietS (a := a) hE hS (by simp only [evOpE, h1, Option.map_some]) h2 h3
  | convert s d x =>
    simp only [vOp, Option.map_eq_some_iff, Prod.mk.injEq] at h
    obtain ⟨w, hw, rfl, rfl, rfl⟩ := h
    exact conv_sim hE hS hw
  | makeFunc fn first cap =>
    cases fn with
    | func f =>
      simp only [vOp, Option.some.injEq, Prod.mk.injEq] at h
      obtain ⟨rfl, rfl, rfl⟩ := h
      exact quietS (a := .func f (first.toList.map (evalE ρA)) (cap.toList.map (evalE ρA))) hE hS rfl (.func _ _ _ _ _ (evalCs_VA hE _) (evalCs_VA hE _)) (OwnV.scalar (fun _ e => by cases e) rfl)
    | _ => simp [vOp] at h
  | slice t x lo hi mx => exact slice_sim hE hS h
  | fieldAddr s x i =>
    have hx := evalV_VA hE x
    simp only [vOp] at h
    split at h
    · rename_i o off k ft hxe hf
      split at h
      · rename_i n hs
        simp only [Option.some.injEq, Prod.mk.injEq] at h
        obtain ⟨rfl, rfl, rfl⟩ := h
        rw [hxe] at hx
        generalize hq : evalE ρA x = xa at hx
        cases hx with
        | ptr _ _ b hb => exact quietS (a := .ptr b (off + k)) hE hS (by simp only [evOpE, hq, hf, hs]) (.ptr _ _ _ hb) (OwnV.scalar (fun _ e => by cases e) rfl)
      · cases h
    · rename_i vs off k ft hxe hf
      split at h
      · rename_i n hs
        simp only [Option.some.injEq, Prod.mk.injEq] at h
        obtain ⟨rfl, rfl, rfl⟩ := h
        rw [hxe] at hx
        generalize hq : evalE ρA x = xa at hx
        cases hx with
        | ro _ _ b base ws h1 h2 h3 h4 => exact quietS (a := .ptr b (base + off + k)) hE hS (by simp only [evOpE, hq, hf, hs]) (by rw [Nat.add_assoc]; exact .ro _ _ _ _ _ h1 h2 h3 h4) (OwnV.scalar (fun _ e => by cases e) rfl)
      · cases h
    · cases h
  | field t x i =>
    simp only [vOp] at h
    split at h
    · rename_i vs k ft hxe hf
      simp only [Option.map_eq_some_iff, Prod.mk.injEq] at h
      obtain ⟨w, hw, rfl, rfl, rfl⟩ := h
      exact field_sim hE hS hxe hf hw
    · cases h
  | indexAddr t x i =>
    have hx := evalV_VA hE x
    simp only [vOp] at h
    split at h
    · rename_i e own els k hu hxe hi
      split at h
      · rename_i el hel
        split at h
        · rename_i hs
          simp only [Option.some.injEq, Prod.mk.injEq] at h
          obtain ⟨rfl, rfl, rfl⟩ := h
          rw [hxe] at hx
          have hni := natOf_sim (evalV_VA hE i) hi
          generalize hq : evalE ρA x = xa at hx
          have hlt : k < els.length := (List.getElem?_eq_some_iff.1 hel).1
          cases hx with
          | nils _ => simp at hel
          | vec _ _ b off cap esz vs h1 h2 h3 h4 h5 =>
            have hes := (h4 k el hel).1
            have hm : (k + 1) * esz ≤ els.length * esz := Nat.mul_le_mul_right _ hlt
            rw [Nat.add_mul, Nat.one_mul] at hm
            refine quietS (a := .ptr b (off + k * esz)) hE hS ?_ ?_ (OwnV.scalar (fun _ e => by cases e) rfl)
            · simp only [evOpE, hq, hu, hni]
              rw [if_pos ⟨hlt, by rw [hs, hes]⟩]
            · have := VA.ro (g := g) el 0 b (off + k * esz) vs h1 (by omega) (h4 k el hel).2 (by rw [hes]; exact h5 k el hel)
              exact this
        · cases h
      · cases h
    · rename_i e o off len cap esz k hu hxe hi
      split at h
      · rename_i hc
        simp only [Option.some.injEq, Prod.mk.injEq] at h
        obtain ⟨rfl, rfl, rfl⟩ := h
        rw [hxe] at hx
        have hni := natOf_sim (evalV_VA hE i) hi
        generalize hq : evalE ρA x = xa at hx
        cases hx with
        | sl _ _ _ b _ _ hb =>
          refine quietS (a := .ptr b (off + k * esz)) hE hS ?_ (.ptr _ _ _ hb) (OwnV.scalar (fun _ e => by cases e) rfl)
          simp only [evOpE, hq, hu, hni]
          rw [if_pos hc]
      · cases h
    · cases h
  | index t x i =>
    have hx := evalC_VA hE x
    simp only [vOp] at h
    split at h
    · rename_i s k hu hxe hi
      split at h
      · rename_i b hb
        simp only [Option.some.injEq, Prod.mk.injEq] at h
        obtain ⟨rfl, rfl, rfl⟩ := h
        rw [hxe] at hx
        have hni := natOf_sim (evalV_VA hE i) hi
        generalize hq : evalE ρA x = xa at hx
        cases hx
        exact quietS (a := .int .u8 b.toNat) hE hS (by simp only [evOpE, hq, hu, hni, hb]) (.int _ _) (OwnV.scalar (fun _ e => by cases e) rfl)
      · cases h
    · rename_i n e vs k hu hxe hi
      split at h
      · rename_i s hs
        split at h
        · rename_i hk
          simp only [Option.map_eq_some_iff, Prod.mk.injEq] at h
          obtain ⟨w, hw, rfl, rfl, rfl⟩ := h
          exact index_sim hE hS hu hxe hi hs hk hw
        · cases h
      · cases h
    · cases h
  | extract x i =>
    have hx := evalV_VA hE x
    simp only [vOp] at h
    split at h
    · rename_i vs hxe
      split at h
      · rename_i w hw
        simp only [Option.some.injEq, Prod.mk.injEq] at h
        obtain ⟨rfl, rfl, rfl⟩ := h
        rw [hxe] at hx
        generalize hq : evalE ρA x = xa at hx
        cases hx with
        | tuple _ as hv =>
          obtain ⟨a, h1, h2⟩ := hv.get i w hw
          exact quietS (a := a) hE hS (by simp only [evOpE, hq, h1]) h2.strip OwnV.strip
      · cases h
    · cases h
  | call q =>
    obtain ⟨callee, args, ts⟩ := q
    cases callee with
    | builtin b =>
      cases b with
      | len =>
        simp only [vOp] at h
        split at h
        · rename_i t x ht hargs
          simp only [Option.map_eq_some_iff, Prod.mk.injEq] at h
          obtain ⟨w, hw, rfl, rfl, rfl⟩ := h
          have hx := evalV_VA hE x
          have key : ∃ a, lenA c.P t (evalE ρA x) = some a ∧ VA g w a ∧ OwnV g H Pr .val w a := by
            unfold lenV at hw
            unfold lenA
            split at hw
            · rename_i s hu hxe
              rw [hxe] at hx
              simp only [Option.some.injEq] at hw
              subst hw
              generalize evalE ρA x = xa at hx
              cases hx
              rw [hu]
              exact ⟨_, rfl, .int _ _, OwnV.scalar (fun _ e => by cases e) rfl⟩
            · rename_i e own els hu hxe
              rw [hxe] at hx
              simp only [Option.some.injEq] at hw
              subst hw
              generalize evalE ρA x = xa at hx
              rw [hu]
              cases hx with
              | nils _ => exact ⟨_, rfl, .int _ _, OwnV.scalar (fun _ e => by cases e) rfl⟩
              | vec _ _ b off cap esz vs h1 h2 h3 h4 h5 => exact ⟨_, rfl, .int _ _, OwnV.scalar (fun _ e => by cases e) rfl⟩
            · rename_i e o off len cap esz hu hxe
              rw [hxe] at hx
              simp only [Option.some.injEq] at hw
              subst hw
              generalize evalE ρA x = xa at hx
              rw [hu]
              cases hx
              exact ⟨_, rfl, .int _ _, OwnV.scalar (fun _ e => by cases e) rfl⟩
            · rename_i n e hu
              simp only [Option.some.injEq] at hw
              subst hw
              rw [hu]
              exact ⟨_, rfl, .int _ _, OwnV.scalar (fun _ e => by cases e) rfl⟩
            · cases hw
          obtain ⟨a, k1, k2, k3⟩ := key
          refine quietS (a := a) hE hS ?_ k2 k3
          simp only [evOpE, builtinA, hargs, List.map_cons, List.map_nil, ht, k1, Option.map_some]
        · cases h
      | append =>
        simp only [vOp] at h
        split at h
        · rename_i t u s x ht hu hargs
          obtain ⟨g1, k⟩ := grab_sim hE hS true s
          have main : ∀ e, tElem c.P t = some e → (∃ q, c.P.underlying u = some (.slice q)) ∨ c.P.underlying u = some .string → (appendV c.P c.wm c.fl σ e (grab true ρ s).1 (evalV (grab true ρ s).2 x)).map (fun r => (r.1, (grab true ρ s).2, r.2)) = some (v, ρ1, σ1) → OpSim c.P call g Pr σ c.fl H ρA (.call ⟨.builtin .append, args, ts⟩) v ρ1 σ1 := by
            intro e he hue hh
            simp only [Option.map_eq_some_iff, Prod.mk.injEq] at hh
            obtain ⟨r, hr, rfl, rfl, rfl⟩ := hh
            obtain ⟨a, H', g', q1, q2, q3, q4, q5, q6, q7⟩ := appendT_sim k.er k.sr k.va k.own (evalV_VA k.er x) hr
            refine ⟨a, H', g', ?_, k.le.trans q2, q3, q4, q5, q6, q7.le k.le⟩
            rcases hue with ⟨q, hue⟩ | hue
            · simp only [evOpE, builtinA, hargs, List.map_cons, List.map_nil, ht, hu, he, hue, q1]
            · simp only [evOpE, builtinA, hargs, List.map_cons, List.map_nil, ht, hu, he, hue, q1]
          split at h
          · rename_i e q he hue
            exact main e he (.inl ⟨q, hue⟩) h
          · rename_i e he hue
            exact main e he (.inr hue) h
          · cases h
        · cases h
      | max =>
        simp only [vOp] at h
        split at h
        · rename_i x y hargs
          simp only [Option.map_eq_some_iff, Prod.mk.injEq] at h
          obtain ⟨w, hw, rfl, rfl, rfl⟩ := h
          have hvs := evalVs_VA hE args.toList
          rw [hargs] at hvs
          generalize hq : args.toList.map (evalE ρA) = as at hvs
          cases hvs with
          | cons _ a1 _ c1 k1 k2 =>
          cases k2 with
          | cons _ a2 _ c2 k3 k4 =>
          cases k4
          unfold minmaxV at hw
          split at hw
          · cases k1; cases k3
            simp only [Option.some.injEq] at hw
            subst hw
            refine quietS hE hS (a := _) ?_ (.int _ _) (OwnV.scalar (fun _ e => by cases e) rfl)
            simp only [evOpE, builtinA, hq, folds, minmax, Option.map_some]
          · cases hw
        · cases h
      | min =>
        simp only [vOp] at h
        split at h
        · rename_i x y hargs
          simp only [Option.map_eq_some_iff, Prod.mk.injEq] at h
          obtain ⟨w, hw, rfl, rfl, rfl⟩ := h
          have hvs := evalVs_VA hE args.toList
          rw [hargs] at hvs
          generalize hq : args.toList.map (evalE ρA) = as at hvs
          cases hvs with
          | cons _ a1 _ c1 k1 k2 =>
          cases k2 with
          | cons _ a2 _ c2 k3 k4 =>
          cases k4
          unfold minmaxV at hw
          split at hw
          · cases k1; cases k3
            simp only [Option.some.injEq] at hw
            subst hw
            refine quietS hE hS (a := _) ?_ (.int _ _) (OwnV.scalar (fun _ e => by cases e) rfl)
            simp only [evOpE, builtinA, hq, folds, minmax, Option.map_some]
          · cases hw
        · cases h
      | _ => simp [vOp] at h
    | _ => simp [vOp] at h
  | makeMap t n =>
    cases n with
    | some _ => simp [vOp] at h
    | none =>
      simp only [vOp, Option.some.injEq, Prod.mk.injEq] at h
      obtain ⟨rfl, rfl, rfl⟩ := h
      obtain ⟨k1, k2, k3, k4⟩ := hS.addObj (x := .amap []) (ax := .amap []) g.U (fun _ _ _ _ h => h) ⟨[], by rw [AH.get_add, if_pos rfl], rfl, fun i k v hi => by simp at hi⟩
      exact ⟨.map H.next, _, _, rfl, k2, k1, hE.keep k2 k3, .map _ _ k4, OwnV.scalar (fun _ e => by cases e) rfl, fr_add hS _⟩
  | lookup t x k ok =>
    simp only [vOp, Option.map_eq_some_iff, Prod.mk.injEq] at h
    obtain ⟨w, hw, rfl, rfl, rfl⟩ := h
    exact lookup_sim hE hS hw
  | mapUpdate t x k y =>
    simp only [vOp, Option.map_eq_some_iff, Prod.mk.injEq] at h
    obtain ⟨s, hs, rfl, rfl, rfl⟩ := h
    exact update_sim hE hS hs
  | _ => simp [vOp] at h
end
end Go.Vw
end
section
/- What older objects keep; how objects are let go. -/
namespace Go.Vw
open Go Go.RowKit Go.Abs

section
variable {P : Program} {g g' : Gh} {H H' : AH} {Pr : Nat → Prop} {σ σ' : St} {ρ : VEnv} {ρA : Env} {call : CallF} {fl : Nat}

theorem get_push (σ : St) (x : VObj) (o : Nat) : (σ.push x).get o = if o = σ.size then some x else σ.get o := rfl
theorem size_push (σ : St) (x : VObj) : (σ.push x).size = σ.size + 1 := rfl
theorem size_put (σ : St) (o : Nat) (x : VObj) : (σ.put o x).size = σ.size := length_putO _ _ _
theorem get_put_ne (σ : St) {o j : Nat} (x : VObj) (h : j ≠ o) : (σ.put o x).get j = σ.get j := by
  show getO (putO _ _ _) _ = _
  rw [getO_putO, if_neg h]; rfl

/-- Older objects stay. -/
def Stays (fl : Nat) (σ σ' : St) : Prop := σ.size ≤ σ'.size ∧ ∀ o, o < fl → o < σ.size → σ'.get o = σ.get o
theorem Stays.refl (fl : Nat) (σ : St) : Stays fl σ σ := ⟨Nat.le_refl _, fun _ _ _ => rfl⟩
theorem Stays.trans {σ'' : St} (h : Stays fl σ σ') (k : Stays fl σ' σ'') : Stays fl σ σ'' := ⟨Nat.le_trans h.1 k.1, fun o h1 h2 => (k.2 o h1 (Nat.lt_of_lt_of_le h2 h.1)).trans (h.2 o h1 h2)⟩
theorem Stays.push (fl : Nat) (σ : St) (x : VObj) : Stays fl σ (σ.push x) := ⟨Nat.le_succ _, fun o _ h => by rw [get_push, if_neg (by omega)]⟩
theorem Stays.less {fl' : Nat} (h : Stays fl' σ σ') (hl : fl ≤ fl') : Stays fl σ σ' := ⟨h.1, fun o h1 h2 => h.2 o (by omega) h2⟩

theorem appendV_stays {wm : TypeId → Bool} {e : TypeId} {s x v : V} {σ1 : St} (h : appendV P wm fl σ e s x = some (v, σ1)) : Stays fl σ σ1 ∧ (wm e = false → σ1 = σ) := by
  unfold appendV at h
  repeat' split at h
  all_goals first
    | (cases h; done)
    | (simp only [Option.some.injEq, Prod.mk.injEq] at h
       obtain ⟨_, rfl⟩ := h
       exact ⟨Stays.refl _ _, fun _ => rfl⟩)
    | (simp only [Option.some.injEq, Prod.mk.injEq] at h
       obtain ⟨_, rfl⟩ := h
       refine ⟨Stays.push _ _ _, fun hw => ?_⟩
       simp_all)
    | (simp only [Option.some.injEq, Prod.mk.injEq] at h
       obtain ⟨_, rfl⟩ := h
       rename_i hc _ _ _ _ _ _ _
       refine ⟨⟨?_, fun o h1 h2 => ?_⟩, fun hw => ?_⟩
       · rw [size_push, size_put]; omega
       · rw [get_push, size_put, if_neg (by omega), get_put_ne _ _ (by omega)]
       · simp_all)

theorem vOp_stays {tk : Bool} {c : Cx} {o : Op} {v : V} {ρ1 : VEnv} {σ1 : St} (h : vOp c tk ρ o σ = some (v, ρ1, σ1)) : Stays c.fl σ σ1 := by
  cases o with
  | load t a =>
    simp only [vOp] at h
    repeat' split at h
    all_goals first
      | (cases h; done)
      | (simp only [Option.some.injEq, Prod.mk.injEq] at h
         obtain ⟨_, _, rfl⟩ := h
         first
           | exact Stays.refl _ _
           | exact ⟨by rw [size_put]; exact Nat.le_refl _, fun o h1 h2 => get_put_ne _ _ (by omega)⟩)
      | (simp only [Option.map_eq_some_iff, Prod.mk.injEq] at h
         obtain ⟨_, _, _, _, rfl⟩ := h
         exact Stays.refl _ _)
  | store t a x =>
    simp only [vOp] at h
    repeat' split at h
    all_goals first
      | (cases h; done)
      | (rename_i hc
         simp only [Option.some.injEq, Prod.mk.injEq] at h
         obtain ⟨_, _, rfl⟩ := h
         refine ⟨by show _ ≤ (putO _ _ _).length; rw [length_putO]; exact Nat.le_refl _, fun o h1 h2 => ?_⟩
         show getO (putO _ _ _) _ = _
         rw [getO_putO, if_neg (by omega)]; rfl)
  | call q =>
    obtain ⟨callee, args, ts⟩ := q
    cases callee with
    | builtin b =>
      cases b with
      | append =>
        simp only [vOp] at h
        repeat' split at h
        all_goals first
          | (cases h; done)
          | (simp only [Option.map_eq_some_iff, Prod.mk.injEq] at h
             obtain ⟨r, hr, _, _, rfl⟩ := h
             exact (appendV_stays hr).1)
      | len =>
        simp only [vOp] at h
        split at h
        · simp only [Option.map_eq_some_iff, Prod.mk.injEq] at h
          obtain ⟨_, _, _, _, rfl⟩ := h
          exact Stays.refl _ _
        · cases h
      | max =>
        simp only [vOp] at h
        split at h
        · simp only [Option.map_eq_some_iff, Prod.mk.injEq] at h
          obtain ⟨_, _, _, _, rfl⟩ := h
          exact Stays.refl _ _
        · cases h
      | min =>
        simp only [vOp] at h
        split at h
        · simp only [Option.map_eq_some_iff, Prod.mk.injEq] at h
          obtain ⟨_, _, _, _, rfl⟩ := h
          exact Stays.refl _ _
        · cases h
      | _ => simp [vOp] at h
    | _ => simp [vOp] at h
  | mapUpdate t x k y =>
    simp only [vOp, Option.map_eq_some_iff, Prod.mk.injEq] at h
    obtain ⟨s, hs, _, _, rfl⟩ := h
    unfold updateV at hs
    repeat' split at hs
    all_goals first
      | (cases hs; done)
      | (simp only [Option.some.injEq] at hs
         subst hs
         exact ⟨by rw [size_put]; exact Nat.le_refl _, fun o h1 h2 => get_put_ne _ _ (by omega)⟩)
  | makeFunc fn first cap =>
    cases fn <;> simp only [vOp] at h <;> first
      | (cases h; done)
      | (simp only [Option.some.injEq, Prod.mk.injEq] at h
         obtain ⟨_, _, rfl⟩ := h
         exact Stays.refl _ _)
  | makeMap t n =>
    cases n <;> simp only [vOp] at h <;> first
      | (cases h; done)
      | (simp only [Option.some.injEq, Prod.mk.injEq] at h
         obtain ⟨_, _, rfl⟩ := h
         exact Stays.push _ _ _)
  | slice t x lo hi mx =>
    cases mx <;> simp only [vOp] at h
    · repeat' split at h
      all_goals first
        | (cases h; done)
        | (simp only [Option.map_eq_some_iff, Prod.mk.injEq] at h
           obtain ⟨_, _, _, _, rfl⟩ := h
           exact Stays.refl _ _)
    · cases h
  | _ =>
    first
      | (simp only [vOp] at h
         (repeat' split at h) <;> first
           | (cases h; done)
           | (simp only [Option.some.injEq, Prod.mk.injEq] at h
              obtain ⟨_, _, rfl⟩ := h
              first
                | exact Stays.refl _ _
                | exact Stays.push _ _ _)
           | (simp only [Option.map_eq_some_iff, Prod.mk.injEq] at h
              obtain ⟨_, _, _, _, rfl⟩ := h
              exact Stays.refl _ _))
      | simp [vOp] at h

/-! ### Objects are let go -/
def trimN (m : Nat) : List Nat → List Nat
  | [] => []
  | x :: r => if r.length < m then x :: r else trimN m r
theorem length_trimN (n : Nat) : ∀ (l : List Nat), (trimN n l).length = min n l.length
  | [] => by simp [trimN]
  | x :: r => by
    rw [trimN]
    split
    · simp; omega
    · rw [length_trimN n r]; simp; omega
theorem blkO_trimN (n : Nat) : ∀ (l : List Nat) (k : Nat), blkO (trimN n l) k = if k < n then blkO l k else none
  | [], k => by simp [trimN, blkO]
  | x :: r, k => by
    rw [trimN]
    split
    · rename_i h
      split
      · rfl
      · rename_i h2
        cases hg : blkO (x :: r) k with
        | none => rfl
        | some y => have := blkO_lt hg; simp at this; omega
    · rw [blkO_trimN n r k]
      split
      · rename_i h1 h2
        rw [blkO, if_neg (by omega)]
      · rfl
def Gh.trim (g : Gh) (m : Nat) : Gh := ⟨trimN m g.μ, g.C, g.U⟩
theorem Gh.blk_trim (g : Gh) (m o : Nat) : (g.trim m).blk o = if o < m then g.blk o else none := blkO_trimN m g.μ o
theorem get_trim (σ : St) (m o : Nat) : (σ.trim m).get o = if o < m then σ.get o else none := getO_trimO m σ.objs o
theorem size_trim (σ : St) (m : Nat) : (σ.trim m).size = min m σ.size := length_trimO m σ.objs
theorem VA.trim {v : V} {a : AV} (h : VA g v a) {m : Nat} (hl : v.low m = true) : VA (g.trim m) v a := VA.low (g := g) (g' := g.trim m) (n := m) (fun o b ho hb => by rw [Gh.blk_trim, if_pos ho]; exact hb) (fun _ _ h => h) h hl
theorem VAs.trim {l : List V} {c : List AV} (h : VAs g l c) {m : Nat} (hl : V.lows m l = true) : VAs (g.trim m) l c := VAs.low (g := g) (g' := g.trim m) (n := m) (fun o b ho hb => by rw [Gh.blk_trim, if_pos ho]; exact hb) (fun _ _ h => h) h hl
theorem bytes_low (n : Nat) (s : List UInt8) : (bytesV s).low n = true := by
  unfold bytesV
  simp only [V.low]
  induction s with
  | nil => rfl
  | cons c s ih => simp only [List.map_cons, V.lowss, V.lows, V.low, byteCellV, Bool.and_self, Bool.true_and]; exact ih
theorem SR.trim (h : SR g Pr σ H) {m : Nat} (hm : σ.pin ≤ m) : SR (g.trim m) Pr (σ.trim m) H := by
  have hg : ∀ o x, (σ.trim m).get o = some x → o < m ∧ σ.get o = some x := by
    intro o x hx
    rw [get_trim] at hx
    split at hx
    · exact ⟨by assumption, hx⟩
    · cases hx
  have hb : ∀ o b, (g.trim m).blk o = some b → o < m ∧ g.blk o = some b := by
    intro o b hx
    rw [Gh.blk_trim] at hx
    split at hx
    · exact ⟨by assumption, hx⟩
    · cases hx
  have ha : ∀ o b, Alive (σ.trim m) (g.trim m) o b → Alive σ g o b := fun o b ⟨h1, x, h2, h3⟩ => ⟨(hb o b h1).2, x, (hg o x h2).2, h3⟩
  refine ⟨?_, ?_, h.fro, h.pr, fun o b k => h.sep o b (ha o b k), fun o o' b b' k k' => h.dist o o' b b' (ha o b k) (ha o' b' k'), fun o b j k => h.kin o b j (ha o b k), h.kinlt, h.low, h.dlow, fun o x hx => h.pin o x (hg o x hx).2, fun o b e => h.blt o b (hb o b e).2, h.tlow⟩
  · rw [size_trim]
    show (trimN m g.μ).length = _
    rw [length_trimN, h.len]
  · intro o x b h1 h2
    obtain ⟨k1, k2⟩ := hg o x h1
    obtain ⟨_, k3⟩ := hb o b h2
    have hr := h.obj o x b k2 k3
    have hl := VObj.low_mono (show max (o + 1) σ.pin ≤ m by omega) (h.pin o x k2)
    cases x with
    | cells vs =>
      obtain ⟨as, e1, e2, e3, e4⟩ := hr
      exact ⟨as, e1, e2.trim hl, e3, e4⟩
    | amap es =>
      obtain ⟨aes, e1, e2, e3⟩ := hr
      refine ⟨aes, e1, e2, fun i k v hi => ?_⟩
      obtain ⟨ka, va, q1, q2, q3, q4⟩ := e3 i k v hi
      have := hl (k, v) (List.mem_of_getElem? hi)
      exact ⟨ka, va, q1, q2.trim this.1, q3.trim this.2, q4⟩
    | bld t u s =>
      obtain ⟨ad, f1, ⟨as, e1, e2, e3, e4⟩, f2, f3⟩ := hr
      refine ⟨ad, f1, ⟨as, e1, e2.trim ?_, e3, e4⟩, f2, f3⟩
      simp only [V.lows, Bool.and_eq_true, bytes_low, and_true]
      rcases f1 with rfl | rfl
      · rfl
      · simpa only [V.low, decide_eq_true_eq] using k1
    | dead => trivial
theorem ER.swept (h : ER g H Pr ρ ρA) (m : Nat) : ER (g.trim m) H Pr (sweep m ρ) ρA := by
  intro t
  unfold sweep
  by_cases e : (ρ t).low m = true
  · rw [if_pos e]
    exact ⟨(h t).1.trim e, (h t).2⟩
  · rw [if_neg e]
    exact ⟨.undef _, OwnV.scalar (fun _ e => by cases e) rfl⟩

structure Post (g g' : Gh) (Pr : Nat → Prop) (σ σ' : St) (fl : Nat) (H H' : AH) : Prop where
  le : g.Le g'
  sr : SR g' Pr σ' H'
  fr : Fr g Pr σ fl H H'
  st : Stays fl σ σ'
theorem Post.refl (h : SR g Pr σ H) : Post g g Pr σ σ fl H H := ⟨Gh.Le.refl g, h, Fr.refl _ _ _ _ _, Stays.refl _ _⟩
theorem Post.trans {g'' : Gh} {σ'' : St} {H'' : AH} (h : Post g g' Pr σ σ' fl H H') (k : Post g' g'' Pr σ' σ'' fl H' H'') : Post g g'' Pr σ σ'' fl H H'' := by
  refine ⟨h.le.trans k.le, k.sr, ⟨fun b hp => (h.fr.pr b hp).trans (k.fr.pr b hp), fun o b ho hal => ?_, Nat.le_trans h.fr.next k.fr.next, fun c t q => k.fr.ty c t (h.fr.ty c t q)⟩, h.st.trans k.st⟩
  obtain ⟨h1, x, h2, h3⟩ := hal
  have ho2 : o < σ.size := getO_lt h2
  rw [k.fr.fl o b ho ⟨h.le.blk _ _ h1, x, by rw [h.st.2 o ho ho2]; exact h2, h3⟩]
  exact h.fr.fl o b ho ⟨h1, x, h2, h3⟩
theorem Post.less {fl' : Nat} (h : Post g g' Pr σ σ' fl' H H') (hl : fl ≤ fl') : Post g g' Pr σ σ' fl H H' := ⟨h.le, h.sr, ⟨h.fr.pr, fun o b ho hal => h.fr.fl o b (by omega) hal, h.fr.next, h.fr.ty⟩, h.st.less hl⟩
/-- What is new is let go. -/
theorem Post.trim (h : Post g g' Pr σ σ' fl H H') {m : Nat} (h1 : σ.size ≤ m) (h2 : σ'.pin ≤ m) (hg : g.μ.length = σ.size) : Post g (g'.trim m) Pr σ (σ'.trim m) fl H H' := by
  refine ⟨⟨fun o b e => ?_, h.le.C⟩, h.sr.trim h2, h.fr, ⟨?_, fun o ho ho2 => ?_⟩⟩
  · have := blkO_lt (show blkO g.μ o = _ from e)
    rw [Gh.blk_trim, if_pos (by omega)]; exact h.le.blk o b e
  · rw [size_trim]; have := h.st.1; omega
  · rw [get_trim, if_pos (by omega)]; exact h.st.2 o ho ho2

/-- A value finds its slot. -/
theorem ER.set (hE : ER g H Pr ρ ρA) (hS : SR g Pr σ H) {v : V} {a : AV} (hv : VA g v a) (ho : OwnV g H Pr .val v a) (d : Option Nat) : ∃ g', g'.μ = g.μ ∧ g'.C = g.C ∧ SR g' Pr σ H ∧ ER g' H Pr (updVD ρ d v) (updD ρA d a) := by
  cases d with
  | none => exact ⟨g, rfl, rfl, hS, hE⟩
  | some d =>
    let f : Pos → Pos := fun p => match p with | .val j => .tmp d j | p => p
    have hfs : ∀ p : Pos, p.still → f p = p := fun p hp => by cases p <;> first | rfl | exact hp.elim
    have hl : g.Le ⟨g.μ, g.C, reU g.U f⟩ := ⟨fun _ _ h => h, fun _ _ h => h⟩
    refine ⟨⟨g.μ, g.C, reU g.U f⟩, rfl, rfl, hS.own rfl rfl (fun b o j hu => by
      show reU g.U f b = _
      rw [reU_some hu]), fun t => ?_⟩
    rw [updVD_some, updD_some, updV_apply, upd_apply]
    by_cases e : t = d
    · subst e
      rw [if_pos rfl, if_pos rfl]
      exact ⟨hv.mono hl, ho.keep hv (fun j b _ hu => ⟨by
        show reU g.U f b = _
        rw [reU_some hu], Keep.refl H b⟩)⟩
    · rw [if_neg e, if_neg e]
      exact ⟨(hE t).1.mono hl, (hE t).2.keep (hE t).1 (fun j b _ hu => ⟨by
        show reU g.U f b = _
        rw [reU_some hu, hfs (.tmp t j) True.intro], Keep.refl H b⟩)⟩
theorem SR.like (h : SR g Pr σ H) (hm : g'.μ = g.μ) (hC : g'.C = g.C) : g.Le g' := ⟨fun o b e => by unfold Gh.blk; rw [hm]; exact e, fun b vs e => by rw [hC]; exact e⟩
end
end Go.Vw
end
section
/- Operations one after the other. -/
namespace Go.Vw
open Go Go.RowKit Go.Abs

section
variable {P : Program} {g g' : Gh} {H H' : AH} {Pr : Nat → Prop} {σ σ' : St} {ρ : VEnv} {ρA : Env} {call : CallF} {fl : Nat}

theorem grab_env (tk : Bool) (ρ : VEnv) (x : Operand) (t : Nat) : (grab tk ρ x).2 t = ρ t ∨ (grab tk ρ x).2 t = (ρ t).strip := by
  cases x with
  | tmp s =>
    cases tk with
    | false => exact .inl rfl
    | true =>
      show updV ρ s _ t = _ ∨ _
      rw [updV_apply]
      by_cases e : t = s
      · rw [if_pos e]
        subst e
        right
        show updV ρ t _ t = _
        rw [updV_apply, if_pos rfl]
      · rw [if_neg e]; exact .inl rfl
  | _ => exact .inl rfl
theorem grabs_env (tk : Bool) : ∀ (l : List (Nat × Operand)) (ρ : VEnv) (t : Nat), (grabs tk ρ l).2 t = ρ t ∨ (grabs tk ρ l).2 t = (ρ t).strip
  | [], ρ, t => .inl rfl
  | (i, x) :: l, ρ, t => by
    show (grabs tk (grab tk ρ x).2 l).2 t = _ ∨ (grabs tk (grab tk ρ x).2 l).2 t = _
    rcases grabs_env tk l (grab tk ρ x).2 t with h | h <;> rcases grab_env tk ρ x t with k | k <;> rw [h, k]
    · exact .inl rfl
    · exact .inr rfl
    · exact .inr rfl
    · exact .inr (strip_strip _)

/-- What an operation does to the frame's other slots. -/
theorem vOp_env {tk : Bool} {c : Cx} {o : Op} {v : V} {ρ1 : VEnv} {σ1 : St} (h : vOp c tk ρ o σ = some (v, ρ1, σ1)) (t : Nat) : ρ1 t = ρ t ∨ ρ1 t = (ρ t).strip := by
  have same : ρ1 = ρ → ρ1 t = ρ t ∨ ρ1 t = (ρ t).strip := fun e => .inl (by rw [e])
  have gr : ∀ (tk : Bool) (x : Operand), ρ1 = (grab tk ρ x).2 → ρ1 t = ρ t ∨ ρ1 t = (ρ t).strip := fun tk x e => by rw [e]; exact grab_env tk ρ x t
  have grs : ∀ (tk : Bool) (l : List (Nat × Operand)), ρ1 = (grabs tk ρ l).2 → ρ1 t = ρ t ∨ ρ1 t = (ρ t).strip := fun tk l e => by rw [e]; exact grabs_env tk l ρ t
  cases o with
  | slice t' x lo hi mx =>
    cases mx <;> simp only [vOp] at h
    · repeat' split at h
      all_goals first
        | (cases h; done)
        | (simp only [Option.map_eq_some_iff, Prod.mk.injEq] at h
           obtain ⟨_, _, _, e, _⟩ := h
           exact same e.symm)
    · cases h
  | makeFunc fn first cap =>
    cases fn <;> simp only [vOp] at h <;> first
      | (cases h; done)
      | (simp only [Option.some.injEq, Prod.mk.injEq] at h
         exact same h.2.1.symm)
  | makeMap t' n =>
    cases n <;> simp only [vOp] at h <;> first
      | (cases h; done)
      | (simp only [Option.some.injEq, Prod.mk.injEq] at h
         exact same h.2.1.symm)
  | call q =>
    obtain ⟨callee, args, ts⟩ := q
    cases callee with
    | builtin b =>
      cases b with
      | append =>
        simp only [vOp] at h
        repeat' split at h
        all_goals first
          | (cases h; done)
          | (simp only [Option.map_eq_some_iff, Prod.mk.injEq] at h
             obtain ⟨r, hr, _, e, _⟩ := h
             exact gr _ _ e.symm)
      | len =>
        simp only [vOp] at h
        split at h
        · simp only [Option.map_eq_some_iff, Prod.mk.injEq] at h
          obtain ⟨_, _, _, e, _⟩ := h
          exact same e.symm
        · cases h
      | max =>
        simp only [vOp] at h
        split at h
        · simp only [Option.map_eq_some_iff, Prod.mk.injEq] at h
          obtain ⟨_, _, _, e, _⟩ := h
          exact same e.symm
        · cases h
      | min =>
        simp only [vOp] at h
        split at h
        · simp only [Option.map_eq_some_iff, Prod.mk.injEq] at h
          obtain ⟨_, _, _, e, _⟩ := h
          exact same e.symm
        · cases h
      | _ => simp [vOp] at h
    | _ => simp [vOp] at h
  | _ =>
    first
      | (simp only [vOp] at h
         (repeat' split at h) <;> first
           | (cases h; done)
           | (simp only [Option.some.injEq, Prod.mk.injEq] at h
              first
                | exact same h.2.1.symm
                | exact gr _ _ h.2.1.symm)
           | (simp only [Option.map_eq_some_iff, Prod.mk.injEq] at h
              obtain ⟨_, _, _, e, _⟩ := h
              first
                | exact same e.symm
                | exact grs _ _ e.symm))
      | simp [vOp] at h

/-- Old objects, where all writers are mild. -/
def Like (σ σ' : St) (o : Nat) : Prop := σ'.get o = σ.get o ∨ ∃ vs off n, σ.get o = some (.cells vs) ∧ σ'.get o = some (.cells (stripAt vs off n))
theorem Stays.like (h : Stays σ.size σ σ') {o : Nat} (ho : o < σ.size) : Like σ σ' o := .inl (h.2 o ho ho)

/-- What an operation that is no call does to old objects, if it is mild. -/
theorem vOp_mild {tk : Bool} {c : Cx} {wm : TypeId → Bool} {quiet : Nat → Bool} (hw : c.wm = wm) (hE : ER g H Pr ρ ρA) (hS : SR g Pr σ H) {o : Op} (hm : cls c.P o ≠ 3 ∨ mild c.P wm quiet o = true) {v : V} {ρ1 : VEnv} {σ1 : St} (h : vOp c tk ρ o σ = some (v, ρ1, σ1)) :
    (∀ o', o' < σ.size → Like σ σ1 o') ∧ ∀ (a : AV) (H' : AH), evOpE c.P call (evalE ρA) o H = some (a, H') → ∀ o' b, Alive σ g o' b → H'.get b = H.get b := by
  have fromFr : ∀ {op : Op}, OpSim c.P call g Pr σ σ.size H ρA op v ρ1 σ1 → ∀ (a : AV) (H' : AH), evOpE c.P call (evalE ρA) op H = some (a, H') → ∀ o' b, Alive σ g o' b → H'.get b = H.get b := by
    rintro op ⟨a1, H1, g1, e1, _, _, _, _, _, e7⟩ a H' e o' b hal
    rw [e1] at e
    simp only [Option.some.injEq, Prod.mk.injEq] at e
    obtain ⟨_, rfl⟩ := e
    obtain ⟨h1, x, h2, h3⟩ := hal
    exact e7.fl o' b (getO_lt h2) ⟨h1, x, h2, h3⟩
  have raised : ∀ {op : Op}, vOp { c with fl := σ.size } tk ρ op σ = some (v, ρ1, σ1) → (∀ o', o' < σ.size → Like σ σ1 o') ∧ ∀ (a : AV) (H' : AH), evOpE c.P call (evalE ρA) op H = some (a, H') → ∀ o' b, Alive σ g o' b → H'.get b = H.get b := by
    intro op h
    have hs := vOp_stays h
    exact ⟨fun o' ho' => hs.like ho', fromFr (vOp_sim (c := { c with fl := σ.size }) hE hS h)⟩
  cases o with
  | load t a =>
    refine ⟨fun o' ho' => ?_, fun a' H' he o' b _ => by
      have : H' = H := by
        simp only [evOpE] at he
        split at he
        · simp only [Option.map_eq_some_iff, Prod.mk.injEq] at he
          obtain ⟨_, _, _, rfl⟩ := he
          rfl
        · cases he
      rw [this]⟩
    simp only [vOp] at h
    split at h
    · rename_i o off _
      split at h
      · rename_i vs hs
        split at h
        · split at h
          · split at h
            · simp only [Option.some.injEq, Prod.mk.injEq] at h
              obtain ⟨_, _, rfl⟩ := h
              by_cases e : o' = o
              · rw [e]
                exact .inr ⟨vs, _, _, hs, (get_put σ hs _ _).trans (if_pos rfl)⟩
              · exact .inl (get_put_ne _ _ e)
            · cases h
          · simp only [Option.some.injEq, Prod.mk.injEq] at h
            obtain ⟨_, _, rfl⟩ := h
            exact .inl rfl
        · cases h
      · cases h
    · simp only [Option.map_eq_some_iff, Prod.mk.injEq] at h
      obtain ⟨_, _, _, _, rfl⟩ := h
      exact .inl rfl
    · cases h
  | store t a x => simp [cls, mild] at hm
  | mapUpdate t x k y => simp [cls, mild] at hm
  | call q =>
    obtain ⟨callee, args, ts⟩ := q
    cases callee with
    | builtin b =>
      cases b with
      | append =>
        simp only [cls, ne_eq, not_true_eq_false, mild, false_or] at hm
        refine raised ?_
        simp only [vOp] at h ⊢
        have hnow : ∀ e, ts[0]?.bind (tElem c.P) = some e → c.wm e = false := by
          intro e he
          cases ht : ts[0]? with
          | none => rw [ht] at he; cases he
          | some t =>
            rw [ht] at he hm
            simp only [Option.bind_some] at he
            simp only [he, hw] at hm ⊢
            simpa using hm
        have same : ∀ e s x r, ts[0]?.bind (tElem c.P) = some e → appendV c.P c.wm c.fl σ e s x = some r → appendV c.P c.wm σ.size σ e s x = some r := by
          intro e s x r he hr
          have hw' := hnow e he
          unfold appendV at hr ⊢
          split at hr
          · split at hr
            · rename_i hc
              rw [if_pos hc]
              split at hr
              · cases hr
              · split at hr
                · exact hr
                · split at hr
                  · rename_i hem; rw [if_pos hem]; exact hr
                  · split at hr
                    · rename_i hc2; rw [hw'] at hc2; simp at hc2
                    · cases hr
                · cases hr
            · cases hr
          · cases hr
        split at h
        · rename_i t u s x ht hu hargs
          split at h
          · rename_i e q he hue
            simp only [Option.map_eq_some_iff] at h ⊢
            obtain ⟨r, hr, h⟩ := h
            exact ⟨r, same e _ _ r (by rw [ht]; exact he) hr, h⟩
          · rename_i e he hue
            simp only [Option.map_eq_some_iff] at h ⊢
            obtain ⟨r, hr, h⟩ := h
            exact ⟨r, same e _ _ r (by rw [ht]; exact he) hr, h⟩
          · cases h
        · cases h
      | len => exact raised (by simpa only [vOp] using h)
      | max => exact raised (by simpa only [vOp] using h)
      | min => exact raised (by simpa only [vOp] using h)
      | _ => simp [vOp] at h
    | _ => simp [vOp] at h
  | slice t x lo hi mx => exact raised (by cases mx <;> simpa only [vOp] using h)
  | makeFunc fn first cap => exact raised (by cases fn <;> simpa only [vOp] using h)
  | makeMap t n => simp [cls, mild] at hm
  | lookup t x k ok => exact raised (by simpa only [vOp] using h)
  | _ =>
    first
      | exact raised (by simpa only [vOp] using h)
      | simp [vOp] at h
/-- A store, and an object elsewhere. -/
theorem store_apart {tk : Bool} {c : Cx} (hE : ER g H Pr ρ ρA) (hS : SR g Pr σ H) {t : TypeId} {a x : Operand} {v : V} {ρ1 : VEnv} {σ1 : St} (h : vOp c tk ρ (.store t a x) σ = some (v, ρ1, σ1)) {o' : Nat} (hne : ∀ o2 off, evalV ρ a = .ptr o2 off → o2 ≠ o') :
    Like σ σ1 o' ∧ ∀ (av : AV) (H' : AH), evOpE c.P call (evalE ρA) (.store t a x) H = some (av, H') → ∀ b, Alive σ g o' b → H'.get b = H.get b := by
  simp only [vOp] at h
  split at h
  · rename_i o off hao
    have hoo := hne o off hao
    split at h
    · rename_i vs hs
      split at h
      · simp only [Option.some.injEq, Prod.mk.injEq] at h
        obtain ⟨_, _, rfl⟩ := h
        refine ⟨.inl (get_put_ne _ _ (fun e => hoo e.symm)), fun av H' he b hal => ?_⟩
        have hav := evalV_VA hE a
        rw [hao] at hav
        simp only [evOpE] at he
        generalize evalE ρA a = aa at hav he
        cases hav with
        | ptr _ _ b2 hb2 =>
          simp only [Option.map_eq_some_iff, Prod.mk.injEq] at he
          obtain ⟨H2, he, _, rfl⟩ := he
          unfold storeA at he
          split at he
          · unfold wr at he
            split at he
            · rename_i ws hg
              split at he
              · simp only [Option.some.injEq] at he
                subst he
                have hal2 : Alive σ g o b2 := ⟨hb2, _, hs, fun e => by cases e⟩
                obtain ⟨d1, d2⟩ := hS.dist o' o b b2 hal hal2 (fun e => hoo e.symm)
                rw [AH.get_wput H hg (hS.sep o b2 hal2).2, if_neg d1, if_neg (fun k => d2 k.2)]
              · cases he
            · cases he
          · cases he
      · cases h
    · cases h
  · cases h
end
end Go.Vw
end
section
/- Regions: a run with all that it passes; when the order is open. -/
namespace Go.Vw
open Go Go.RowKit Go.Abs

section
variable {P : Program} {K : Knobs} {call : CallF} {Pr : Nat → Prop}

structure StepF (P : Program) (K : Knobs) (c : CxF) (Pr : Nat → Prop) (g g' : Gh) (σ σ' : St) (ρ ρ' : VEnv) (H H' : AH) (o : Oper) (ran : Bool) : Prop where
  post : Post g g' Pr σ σ' c.fl H H'
  mild : (cls P o.op ≠ 3 ∨ mild P c.wm K.quiet o.op = true) → (∀ o', o' < σ.size → Like σ σ' o') ∧ ∀ o' b, Alive σ g o' b → H'.get b = H.get b
  apart : ∀ t a x o', o.op = .store t a x → (∀ o2 off, evalV ρ a = .ptr o2 off → o2 ≠ o') → Like σ σ' o' ∧ ∀ b, Alive σ g o' b → H'.get b = H.get b
  env : ∃ (ρ1 : VEnv) (w : V), (∀ t, ρ1 t = ρ t ∨ ρ1 t = (ρ t).strip) ∧ ρ' = updVD ρ1 o.dst w ∧ (ran = true → (∃ tk, vOp ⟨P, c.wm, c.fl⟩ tk ρ o.op σ = some (w, ρ1, σ')) ∨ ∃ q x, o.op = .call q ∧ q.callee = .value x) ∧ (ran = false → w = .tuple [])
def frameAt (tr : List Tr) (α' : List AV) (p : Nat) : List AV := match tr[p]? with | some r => r.α | none => α'

/-- A run of operations, in both evaluators. -/
structure Runs (P : Program) (K : Knobs) (call : CallF) (c : CxF) (Pr : Nat → Prop) (all rest : List Oper) (g : Gh) (σ : St) (ρ : VEnv) (σ' : St) (ρ' : VEnv) (α : List AV) (H : AH) (tr : List Tr) (α' : List AV) (H' : AH) (gs : Nat → Gh) (ss : Nat → St) (rs : Nat → VEnv) : Prop where
  run : trace P call all rest α H = some (tr, α', H')
  len : α'.length = c.N
  g0 : gs 0 = g
  s0 : ss 0 = σ
  r0 : rs 0 = ρ
  sN : ss rest.length = σ'
  rN : rs rest.length = ρ'
  tl : tr.length = rest.length
  st : ∀ p, p ≤ rest.length → SR (gs p) Pr (ss p) (heapAt tr H' p) ∧ ER (gs p) (heapAt tr H' p) Pr (rs p) (envOf (frameAt tr α' p))
  step : ∀ p o, rest[p]? = some o → ∃ r, tr[p]? = some r ∧ StepF P K c Pr (gs p) (gs (p + 1)) (ss p) (ss (p + 1)) (rs p) (rs (p + 1)) (heapAt tr H' p) (heapAt tr H' (p + 1)) o r.ran
theorem Runs.nil {c : CxF} {all : List Oper} {g : Gh} {σ : St} {ρ : VEnv} {α : List AV} {H : AH} (hS : SR g Pr σ H) (hE : ER g H Pr ρ (envOf α)) (hl : α.length = c.N) : Runs P K call c Pr all [] g σ ρ σ ρ α H [] α H (fun _ => g) (fun _ => σ) (fun _ => ρ) :=
  ⟨rfl, hl, rfl, rfl, rfl, rfl, rfl, rfl, fun p _ => ⟨hS, hE⟩, fun p o hp => by simp at hp⟩
theorem Runs.cons {c : CxF} {all rest : List Oper} {o : Oper} {g g1 : Gh} {σ σ1 : St} {ρ ρ1 : VEnv} {σ' : St} {ρ' : VEnv} {α : List AV} {H H1 : AH} {tr : List Tr} {α' : List AV} {H' : AH} {gs : Nat → Gh} {ss : Nat → St} {rs : Nat → VEnv} {ran : Bool} {v : AV}
    (hS : SR g Pr σ H) (hE : ER g H Pr ρ (envOf α)) (hst : StepF P K c Pr g g1 σ σ1 ρ ρ1 H H1 o ran) (htr : ∀ l a b, trace P call all rest (setD α o.dst v) H1 = some (l, a, b) → trace P call all (o :: rest) α H = some (⟨α, H, ran, v⟩ :: l, a, b))
    (h : Runs P K call c Pr all rest g1 σ1 ρ1 σ' ρ' (setD α o.dst v) H1 tr α' H' gs ss rs) :
    Runs P K call c Pr all (o :: rest) g σ ρ σ' ρ' α H (⟨α, H, ran, v⟩ :: tr) α' H' (fun p => match p with | 0 => g | p + 1 => gs p) (fun p => match p with | 0 => σ | p + 1 => ss p) (fun p => match p with | 0 => ρ | p + 1 => rs p) := by
  have h1 : heapAt tr H' 0 = H1 := by
    have ht := h.run
    cases rest with
    | nil => simp only [trace, Option.some.injEq, Prod.mk.injEq] at ht; obtain ⟨rfl, _, rfl⟩ := ht; rfl
    | cons o2 r2 =>
      rw [trace] at ht
      split at ht
      · cases ht
      · split at ht
        · split at ht
          · simp only [Option.some.injEq, Prod.mk.injEq] at ht; obtain ⟨rfl, _, _⟩ := ht; rfl
          · cases ht
        · cases ht
      · split at ht
        · simp only [Option.some.injEq, Prod.mk.injEq] at ht; obtain ⟨rfl, _, _⟩ := ht; rfl
        · cases ht
  refine ⟨htr _ _ _ h.run, h.len, rfl, rfl, rfl, h.sN, h.rN, by simp [h.tl], fun p hp => ?_, fun p x hx => ?_⟩
  · cases p with
    | zero => exact ⟨hS, hE⟩
    | succ p => exact h.st p (by simpa using hp)
  · cases p with
    | zero =>
      simp only [List.getElem?_cons_zero, Option.some.injEq] at hx
      subst hx
      refine ⟨_, rfl, ?_⟩
      show StepF P K c Pr g (gs 0) σ (ss 0) ρ (rs 0) H (heapAt tr H' 0) o ran
      rw [h.g0, h.s0, h.r0, h1]
      exact hst
    | succ p => exact h.step p x (by simpa using hx)
theorem Runs.post {c : CxF} {all rest : List Oper} {g : Gh} {σ : St} {ρ : VEnv} {σ' : St} {ρ' : VEnv} {α : List AV} {H : AH} {tr : List Tr} {α' : List AV} {H' : AH} {gs : Nat → Gh} {ss : Nat → St} {rs : Nat → VEnv} (h : Runs P K call c Pr all rest g σ ρ σ' ρ' α H tr α' H' gs ss rs) (i : Nat) : ∀ (d : Nat), i + d ≤ rest.length → Post (gs i) (gs (i + d)) Pr (ss i) (ss (i + d)) c.fl (heapAt tr H' i) (heapAt tr H' (i + d))
  | 0, hi => Post.refl (h.st i hi).1
  | d + 1, hi => by
    obtain ⟨r, _, hs⟩ := h.step (i + d) _ (List.getElem?_eq_getElem (by omega))
    exact (h.post i d (by omega)).trans hs.post
theorem heapAt_zero {all rest : List Oper} {α : List AV} {H : AH} {tr : List Tr} {α' : List AV} {H' : AH} (ht : trace P call all rest α H = some (tr, α', H')) : heapAt tr H' 0 = H := by
  cases rest with
  | nil => simp only [trace, Option.some.injEq, Prod.mk.injEq] at ht; obtain ⟨rfl, _, rfl⟩ := ht; rfl
  | cons o2 r2 =>
    rw [trace] at ht
    split at ht
    · cases ht
    · split at ht
      · split at ht
        · simp only [Option.some.injEq, Prod.mk.injEq] at ht; obtain ⟨rfl, _, _⟩ := ht; rfl
        · cases ht
      · cases ht
    · split at ht
      · simp only [Option.some.injEq, Prod.mk.injEq] at ht; obtain ⟨rfl, _, _⟩ := ht; rfl
      · cases ht
theorem heapAt_end (tr : List Tr) (H' : AH) (n : Nat) (h : tr.length = n) : heapAt tr H' n = H' := by unfold heapAt; rw [List.getElem?_eq_none (by omega)]
theorem frameAt_end (tr : List Tr) (α' : List AV) (n : Nat) (h : tr.length = n) : frameAt tr α' n = α' := by unfold frameAt; rw [List.getElem?_eq_none (by omega)]
theorem trace_evOps (all : List Oper) : ∀ (rest : List Oper) (α : List AV) (H : AH) (tr : List Tr) (α' : List AV) (H' : AH), trace P call all rest α H = some (tr, α', H') → evOps P call all rest α H = some (α', H')
  | [], α, H, tr, α', H', h => by
    simp only [trace, Option.some.injEq, Prod.mk.injEq] at h
    obtain ⟨_, rfl, rfl⟩ := h
    rfl
  | o :: rest, α, H, tr, α', H', h => by
    rw [trace] at h
    rw [evOps]
    unfold goes at h
    cases hg : o.guard with
    | none =>
      rw [hg] at h
      simp only at h ⊢
      cases he : evOp P call α o.op H with
      | none => rw [he] at h; cases h
      | some q =>
        rw [he] at h
        simp only at h ⊢
        cases ht : trace P call all rest (setD α o.dst q.1) q.2 with
        | none => rw [ht] at h; cases h
        | some t =>
          rw [ht] at h
          simp only [Option.some.injEq, Prod.mk.injEq] at h
          obtain ⟨_, rfl, rfl⟩ := h
          exact trace_evOps all rest _ _ _ _ _ ht
    | some q =>
      obtain ⟨j, want⟩ := q
      rw [hg] at h
      simp only at h ⊢
      cases hy : yieldedA all α j with
      | none => rw [hy] at h; cases h
      | some b =>
        rw [hy] at h
        simp only [Option.map_some] at h ⊢
        by_cases hb : b = want
        · have : (b == want) = true := by simpa using hb
          rw [this] at h
          rw [if_pos hb]
          simp only at h
          cases he : evOp P call α o.op H with
          | none => rw [he] at h; cases h
          | some q =>
            rw [he] at h
            simp only at h ⊢
            cases ht : trace P call all rest (setD α o.dst q.1) q.2 with
            | none => rw [ht] at h; cases h
            | some t =>
              rw [ht] at h
              simp only [Option.some.injEq, Prod.mk.injEq] at h
              obtain ⟨_, rfl, rfl⟩ := h
              exact trace_evOps all rest _ _ _ _ _ ht
        · have : (b == want) = false := by simpa using hb
          rw [this] at h
          rw [if_neg hb]
          simp only at h
          cases ht : trace P call all rest (setD α o.dst (.tuple [])) H with
          | none => rw [ht] at h; cases h
          | some t =>
            rw [ht] at h
            simp only [Option.some.injEq, Prod.mk.injEq] at h
            obtain ⟨_, rfl, rfl⟩ := h
            exact trace_evOps all rest _ _ _ _ _ ht

mutual
theorem same_refl : ∀ a : AV, same a a = true
  | .undef => rfl
  | .int k n => by simp [same]
  | .bool b => by simp [same]
  | .str s => by simp [same]
  | .agg l => by simp only [same]; exact sames_refl l
  | .tuple l => by simp only [same]; exact sames_refl l
  | .ptr b o => by simp [same]
  | .nilp => rfl
  | .slice b o n c e => by simp [same]
  | .nils => rfl
  | .func f a c => by simp only [same, Bool.and_eq_true]; exact ⟨⟨by simp, sames_refl a⟩, sames_refl c⟩
  | .nilf => rfl
  | .map b => by simp [same]
  | .nilm => rfl
  | .iface t v => by simp only [same, Bool.and_eq_true]; exact ⟨by simp, same_refl v⟩
  | .nili => rfl
theorem sames_refl : ∀ l : List AV, sames l l = true
  | [] => rfl
  | a :: l => by simp only [sames, Bool.and_eq_true]; exact ⟨same_refl a, sames_refl l⟩
end

section
variable {c : CxF} {ops : List Oper} {g : Gh} {σ : St} {ρ : VEnv} {σ' : St} {ρ' : VEnv} {α : List AV} {H : AH} {tr : List Tr} {α' : List AV} {H' : AH} {gs : Nat → Gh} {ss : Nat → St} {rs : Nat → VEnv}

/-- No step between touches old objects. -/
def Calm (P : Program) (K : Knobs) (c : CxF) (ops : List Oper) (i j : Nat) : Prop := ∀ l o, i ≤ l → l < j → ops[l]? = some o → cls P o.op ≠ 3 ∨ mild P c.wm K.quiet o.op = true

theorem Like.alive {σ σ' : St} {o : Nat} (h : Like σ σ' o) : (∃ x, σ.get o = some x ∧ x ≠ .dead) ↔ ∃ x, σ'.get o = some x ∧ x ≠ .dead := by
  rcases h with h | ⟨vs, off, n, h1, h2⟩
  · rw [h]
  · constructor
    · intro _; exact ⟨_, h2, fun e => by cases e⟩
    · intro _; exact ⟨_, h1, fun e => by cases e⟩

/-- An object that lives at j lived as well at i, and its block is the same. -/
theorem Runs.back (h : Runs P K call c Pr ops ops g σ ρ σ' ρ' α H tr α' H' gs ss rs) {i : Nat} {o b : Nat} (hb : (gs i).blk o = some b) : ∀ (d : Nat), i + d ≤ ops.length → Calm P K c ops i (i + d) → (∃ x, (ss (i + d)).get o = some x ∧ x ≠ .dead) → (∃ x, (ss i).get o = some x ∧ x ≠ .dead) ∧ (heapAt tr H' (i + d)).get b = (heapAt tr H' i).get b
  | 0, hi, _, ha => ⟨ha, rfl⟩
  | d + 1, hi, hc, ha => by
    obtain ⟨r, _, hs⟩ := h.step (i + d) _ (List.getElem?_eq_getElem (by omega))
    obtain ⟨m1, m2⟩ := hs.mild (hc (i + d) _ (by omega) (by omega) (List.getElem?_eq_getElem (by omega)))
    have hp := h.post i d (by omega)
    have ho : o < (ss (i + d)).size := by
      have h1 := blkO_lt (show blkO (gs i).μ o = some b from hb)
      have h2 := (h.st i (by omega)).1.len
      have h3 := hp.st.1
      omega
    have ha' := (m1 o ho).alive.2 ha
    obtain ⟨k1, k2⟩ := h.back hb d (by omega) (fun l x h1 h2 => hc l x h1 (by omega)) ha'
    obtain ⟨x, hx1, hx2⟩ := ha'
    exact ⟨k1, (m2 o b ⟨hp.le.blk _ _ hb, x, hx1, hx2⟩).trans k2⟩
theorem Runs.forth (h : Runs P K call c Pr ops ops g σ ρ σ' ρ' α H tr α' H' gs ss rs) {i : Nat} {o b : Nat} (hb : (gs i).blk o = some b) (ha : ∃ x, (ss i).get o = some x ∧ x ≠ .dead) : ∀ (d : Nat), i + d ≤ ops.length → Calm P K c ops i (i + d) → (∃ x, (ss (i + d)).get o = some x ∧ x ≠ .dead) ∧ (heapAt tr H' (i + d)).get b = (heapAt tr H' i).get b
  | 0, hi, _ => ⟨ha, rfl⟩
  | d + 1, hi, hc => by
    obtain ⟨k1, k2⟩ := h.forth hb ha d (by omega) (fun l x h1 h2 => hc l x h1 (by omega))
    obtain ⟨r, _, hs⟩ := h.step (i + d) _ (List.getElem?_eq_getElem (by omega))
    obtain ⟨m1, m2⟩ := hs.mild (hc (i + d) _ (by omega) (by omega) (List.getElem?_eq_getElem (by omega)))
    have hp := h.post i d (by omega)
    have ho : o < (ss (i + d)).size := by
      have h1 := blkO_lt (show blkO (gs i).μ o = some b from hb)
      have h2 := (h.st i (by omega)).1.len
      have h3 := hp.st.1
      omega
    obtain ⟨x, hx1, hx2⟩ := k1
    exact ⟨(m1 o ho).alive.1 ⟨x, hx1, hx2⟩, (m2 o b ⟨hp.le.blk _ _ hb, x, hx1, hx2⟩).trans k2⟩

/-- Nobody here writes this object. -/
def CalmX (P : Program) (K : Knobs) (c : CxF) (ops : List Oper) (rs : Nat → VEnv) (o' i j : Nat) : Prop := ∀ l o, i ≤ l → l < j → ops[l]? = some o → (cls P o.op ≠ 3 ∨ mild P c.wm K.quiet o.op = true) ∨ ∃ t a x, o.op = .store t a x ∧ ∀ o2 off, evalV (rs l) a = .ptr o2 off → o2 ≠ o'
theorem Runs.forthX (h : Runs P K call c Pr ops ops g σ ρ σ' ρ' α H tr α' H' gs ss rs) {i : Nat} {o b : Nat} (hb : (gs i).blk o = some b) (ha : ∃ x, (ss i).get o = some x ∧ x ≠ .dead) : ∀ (d : Nat), i + d ≤ ops.length → CalmX P K c ops rs o i (i + d) → (∃ x, (ss (i + d)).get o = some x ∧ x ≠ .dead) ∧ (heapAt tr H' (i + d)).get b = (heapAt tr H' i).get b
  | 0, hi, _ => ⟨ha, rfl⟩
  | d + 1, hi, hc => by
    obtain ⟨k1, k2⟩ := h.forthX hb ha d (by omega) (fun l x h1 h2 => hc l x h1 (by omega))
    obtain ⟨r, _, hs⟩ := h.step (i + d) _ (List.getElem?_eq_getElem (by omega))
    have hp := h.post i d (by omega)
    have ho : o < (ss (i + d)).size := by
      have h1 := blkO_lt (show blkO (gs i).μ o = some b from hb)
      have h2 := (h.st i (by omega)).1.len
      have h3 := hp.st.1
      omega
    obtain ⟨x, hx1, hx2⟩ := k1
    rcases hc (i + d) _ (by omega) (by omega) (List.getElem?_eq_getElem (by omega)) with hc | ⟨t, a, y, e1, e2⟩
    · obtain ⟨m1, m2⟩ := hs.mild hc
      exact ⟨(m1 o ho).alive.1 ⟨x, hx1, hx2⟩, (m2 o b ⟨hp.le.blk _ _ hb, x, hx1, hx2⟩).trans k2⟩
    · obtain ⟨m1, m2⟩ := hs.apart t a y o e1 e2
      exact ⟨m1.alive.1 ⟨x, hx1, hx2⟩, (m2 b ⟨hp.le.blk _ _ hb, x, hx1, hx2⟩).trans k2⟩
theorem strip_ptr {v : V} {o off : Nat} (h : v.strip = .ptr o off) : v = .ptr o off := by
  cases v <;> first | exact h | cases h
theorem Runs.keep (h : Runs P K call c Pr ops ops g σ ρ σ' ρ' α H tr α' H' gs ss rs) {t o off : Nat} {i : Nat} : ∀ (d : Nat), i + d ≤ ops.length → (∀ l x, i ≤ l → l < i + d → ops[l]? = some x → x.dst ≠ some t) → rs (i + d) t = .ptr o off → rs i t = .ptr o off
  | 0, _, _, e => e
  | d + 1, hi, hn, e => by
    obtain ⟨r, _, hs⟩ := h.step (i + d) _ (List.getElem?_eq_getElem (by omega))
    obtain ⟨ρ1, w, e1, e2, _⟩ := hs.env
    have hd := hn (i + d) _ (by omega) (by omega) (List.getElem?_eq_getElem (by omega))
    refine h.keep d (by omega) (fun l x h1 h2 => hn l x h1 (by omega)) ?_
    have : rs (i + d + 1) t = ρ1 t := by
      rw [e2]
      cases hk : ops[i + d].dst with
      | none => rfl
      | some k =>
        by_cases hh : t = k
        · subst hh; exact absurd hk hd
        · exact if_neg hh
    rw [show i + (d + 1) = i + d + 1 by omega, this] at e
    rcases e1 t with q | q
    · rw [q] at e; exact e
    · rw [q] at e; exact strip_ptr e

theorem loadA_cells {t : TypeId} {H1 H2 : AH} {b off : Nat} {vs : List AV} {o1 o2 : Bool} (h1 : H1.get b = some (.cells vs o1)) (h2 : H2.get b = some (.cells vs o2)) : loadA P t H1 b off = loadA P t H2 b off := by
  apply loadA_get
  intro n
  unfold rd
  rw [h1, h2]
end
end
end Go.Vw
end
section
/- A region whose order is open: what the second evaluator asks is enough. -/
namespace Go.Vw
open Go Go.RowKit Go.Abs

section
variable {P : Program} {K : Knobs} {call : CallF} {Pr : Nat → Prop}
variable {c : CxF} {ops : List Oper} {g : Gh} {σ : St} {ρ : VEnv} {σ' : St} {ρ' : VEnv} {α : List AV} {H : AH} {tr : List Tr} {α' : List AV} {H' : AH} {gs : Nat → Gh} {ss : Nat → St} {rs : Nat → VEnv}

theorem VAs.stripAt {vs : List V} {as : List AV} (h : VAs g vs as) (off n : Nat) : VAs g (stripAt vs off n) as := by
  unfold Go.Vw.stripAt Go.Abs.splice
  have hk : (((vs.drop off).take n).map V.strip1).length = ((as.drop off).take n).length := by simp [h.length]
  rw [hk]
  have e : as = as.take off ++ (as.drop off).take n ++ as.drop (off + ((as.drop off).take n).length) := by
    rw [List.append_assoc]
    have : (as.drop off).take n ++ as.drop (off + ((as.drop off).take n).length) = as.drop off := by
      have h1 : as.drop (off + ((as.drop off).take n).length) = (as.drop off).drop ((as.drop off).take n).length := by rw [List.drop_drop]
      rw [h1]
      rw [List.length_take]
      by_cases hn : n ≤ (as.drop off).length
      · rw [Nat.min_eq_left hn, List.take_append_drop]
      · rw [Nat.min_eq_right (by omega), List.take_of_length_le (by omega), List.drop_length, List.append_nil]
    rw [this, List.take_append_drop]
  exact Eq.mp (congrArg (VAs g _) e.symm) (((h.take off).append ((h.drop off).take n).strip1).append (h.drop _))

/-- What older objects hold, while all writers are mild. -/
theorem Runs.held (h : Runs P K call c Pr ops ops g σ ρ σ' ρ' α H tr α' H' gs ss rs) {o b : Nat} (hb : (gs 0).blk o = some b) : ∀ (i : Nat), i ≤ ops.length → Calm P K c ops 0 i → ∀ vs as, (ss i).get o = some (.cells vs) → (heapAt tr H' i).get b = some (.cells as true) → VAs (gs 0) vs as ∧ vs.all V.isCell = true
  | 0, hi, _, vs, as, h1, h2 => by
    obtain ⟨as', e1, e2, e3, _⟩ := (h.st 0 hi).1.obj o _ b h1 hb
    rw [h2] at e1
    simp only [Option.some.injEq, AObj.cells.injEq, and_true] at e1
    subst e1
    exact ⟨e2, e3⟩
  | i + 1, hi, hc, vs, as, h1, h2 => by
    have hci : Calm P K c ops 0 i := fun l x a1 a2 => hc l x a1 (by omega)
    obtain ⟨r, _, hs⟩ := h.step i _ (List.getElem?_eq_getElem (by omega))
    obtain ⟨m1, m2⟩ := hs.mild (hc i _ (by omega) (by omega) (List.getElem?_eq_getElem (by omega)))
    have hp := h.post 0 i (by omega)
    rw [Nat.zero_add] at hp
    have ho : o < (ss i).size := by
      have q1 := blkO_lt (show blkO (gs 0).μ o = some b from hb)
      have q2 := (h.st 0 (by omega)).1.len
      have q3 := hp.st.1
      omega
    have hal : ∃ x, (ss i).get o = some x ∧ x ≠ .dead := (m1 o ho).alive.2 ⟨_, h1, fun e => by cases e⟩
    obtain ⟨x, hx1, hx2⟩ := hal
    have hg := m2 o b ⟨hp.le.blk _ _ hb, x, hx1, hx2⟩
    rw [h2] at hg
    rcases m1 o ho with e | ⟨ws, off, n, e1, e2⟩
    · exact h.held hb i (by omega) hci vs as (by rw [← e]; exact h1) hg.symm
    · rw [h1] at e2
      simp only [Option.some.injEq, VObj.cells.injEq] at e2
      subst e2
      obtain ⟨k1, k2⟩ := h.held hb i (by omega) hci ws as e1 hg.symm
      refine ⟨k1.stripAt off n, ?_⟩
      rw [List.all_eq_true] at k2 ⊢
      intro y hy
      unfold Go.Vw.stripAt splice at hy
      rcases List.mem_append.1 hy with hy | hy
      · rcases List.mem_append.1 hy with hy | hy
        · exact k2 y (List.mem_of_mem_take hy)
        · obtain ⟨z, hz, rfl⟩ := List.mem_map.1 hy
          exact isCell_strip1 (k2 z (List.mem_of_mem_drop (List.mem_of_mem_take hz)))
      · exact k2 y (List.mem_of_mem_drop hy)

/-- An operand of an old slot. -/
def OldO (g0 : Gh) (f : Nat → Bool) (ρ : VEnv) (ρA : Env) : Prop := ∀ t, f t = true → VA g0 (ρ t) (ρA t)
theorem OldO.op {g0 : Gh} {f : Nat → Bool} {ρ : VEnv} {ρA : Env} (h : OldO g0 f ρ ρA) (x : Operand) (hx : (match x with | .tmp t => f t | _ => true) = true) : VA g0 (evalV ρ x) (evalE ρA x) := by
  cases x with
  | tmp t => exact h t hx
  | const v => exact ofConst_VA v
  | global n => exact .undef _
  | func f => exact .func f [] [] [] [] .nil .nil

theorem Runs.olds (h : Runs P K call c Pr ops ops g σ ρ σ' ρ' α H tr α' H' gs ss rs) (hfr : inFrame c.N ops = true) (hN : α.length = c.N) : ∀ (rest : List Oper) (i : Nat) (ok : Bool) (f : Nat → Bool), ops.drop i = rest → i ≤ ops.length → (ok = true → Calm P K c ops 0 i) → OldO (gs 0) f (rs i) (envOf (frameAt tr α' i)) →
    ∀ p, p ≤ rest.length → OldO (gs 0) ((Go.Vw.olds P c.wm K.quiet rest ok f).getD p (fun _ => false)) (rs (i + p)) (envOf (frameAt tr α' (i + p)))
  | [], i, ok, f, _, _, _, hf, p, hp => by
    have : p = 0 := by simpa using hp
    subst this
    exact hf
  | o :: rest, i, ok, f, hd, hi, hok, hf, 0, _ => hf
  | o :: rest, i, ok, f, hd, hi, hok, hf, p + 1, hp => by
    have hlt : i < ops.length := by
      rcases Nat.lt_or_ge i ops.length with k | k
      · exact k
      · rw [List.drop_of_length_le k] at hd; cases hd
    have ho : ops[i]? = some o := by
      have := congrArg (·[0]?) hd
      simpa [List.getElem?_drop] using this
    have hd' : ops.drop (i + 1) = rest := by
      rw [← List.drop_drop, hd]; rfl
    obtain ⟨αs, Hs, rn, vs, T⟩ := trace_facts ops ops α H tr α' H' h.run
    obtain ⟨r, hr, hs⟩ := h.step i o ho
    obtain ⟨r', hr', e1, e2, e3⟩ := T.tr_ i o ho
    rw [hr] at hr'
    simp only [Option.some.injEq] at hr'
    subst hr'
    obtain ⟨t1, t2, t3, _⟩ := T.step i o ho
    have hfa : ∀ q, q ≤ ops.length → frameAt tr α' q = αs q := by
      intro q hq
      rcases Nat.lt_or_ge q ops.length with k | k
      · obtain ⟨r2, hr2, e1, _, _⟩ := T.tr_ q _ (List.getElem?_eq_getElem k)
        unfold frameAt; rw [hr2]; exact e1
      · have : q = ops.length := by omega
        subst this
        rw [frameAt_end tr α' _ h.tl, T.aN]
    have hlen : ∀ q, q ≤ ops.length → (αs q).length = c.N := by
      intro q
      induction q with
      | zero => intro _; rw [T.a0]; exact hN
      | succ q ih => intro hq; rw [(T.step q _ (List.getElem?_eq_getElem (by omega))).1, length_setD]; exact ih (by omega)
    have hdst : ∀ k, o.dst = some k → k < (αs i).length := by
      intro k hk
      have := List.all_eq_true.1 hfr o (List.mem_of_getElem? ho)
      rw [hk] at this
      rw [hlen i hi]
      simpa using this
    have hnext : envOf (frameAt tr α' (i + 1)) = updD (envOf (frameAt tr α' i)) o.dst (vs i) := by
      rw [hfa (i + 1) (by omega), hfa i hi, t1, envOf_setD hdst]
    rw [hfa i hi] at hf
    have key := h.olds hfr hN rest (i + 1) (ok && (!(cls P o.op == 3) || mild P c.wm K.quiet o.op))
      (match o.dst with | some d => fun t => if t = d then (match o.op with
        | .move x | .assign x | .nilCheck x | .fieldAddr _ x _ | .field _ x _ | .indexAddr _ x _ => (match x with | .tmp t => f t | _ => true)
        | .load _ x => ok && (match x with | .tmp t => f t | _ => true)
        | _ => false) else f t | none => f) hd' (by omega) ?_ ?_ p (by simpa using hp)
    · rw [show i + (p + 1) = i + 1 + p by omega]
      exact key
    · intro hk l x a1 a2 hx
      simp only [Bool.and_eq_true] at hk
      by_cases e : l = i
      · subst e
        rw [ho] at hx
        simp only [Option.some.injEq] at hx
        subst hx
        have := hk.2
        simp only [Bool.or_eq_true, Bool.not_eq_true', beq_eq_false_iff_ne, ne_eq] at this
        exact this
      · exact hok hk.1 l x a1 (by omega) hx
    · obtain ⟨ρ1, w, n1, n2, n3, n4⟩ := hs.env
      have rest_ : ∀ t, f t = true → VA (gs 0) (ρ1 t) (envOf (αs i) t) := by
        intro t ht
        rcases n1 t with q | q
        · rw [q]; exact hf t ht
        · rw [q]; exact (hf t ht).strip
      rw [hnext, n2, hfa i hi]
      cases hds : o.dst with
      | none =>
        intro t ht
        exact rest_ t ht
      | some d =>
        intro t ht
        simp only at ht
        rw [updVD_some, updD_some, updV_apply, upd_apply]
        by_cases e : t = d
        · rw [if_pos e] at ht ⊢
          rw [if_pos e]
          cases hrn : r.ran with
          | false => rw [n4 hrn, (t3 (by rw [← e2]; exact hrn)).2]; exact .tuple _ _ .nil
          | true =>
            have hev := t2 (by rw [← e2]; exact hrn)
            rw [evOp_env] at hev
            have hHi : Hs i = heapAt tr H' i := (T.at_ i hi).symm
            rcases n3 hrn with ⟨tk, hv⟩ | ⟨q, x, hq, _⟩
            · cases hop : o.op with
              | move x =>
                rw [hop] at hv hev ht
                simp only [vOp, Option.some.injEq, Prod.mk.injEq] at hv
                simp only [evOpE, Option.some.injEq, Prod.mk.injEq] at hev
                rw [← hev.1, ← hv.1]
                have hx := hf.op x ht
                cases x with
                | tmp s =>
                  cases tk
                  · exact hx.strip
                  · exact hx
                | _ => exact hx
              | assign x =>
                rw [hop] at hv hev ht
                simp only [vOp, Option.some.injEq, Prod.mk.injEq] at hv
                simp only [evOpE, Option.some.injEq, Prod.mk.injEq] at hev
                rw [← hev.1, ← hv.1]
                have hx := hf.op x ht
                cases x with
                | tmp s =>
                  cases tk
                  · exact hx.strip
                  · exact hx
                | _ => exact hx
              | nilCheck x =>
                rw [hop] at hv hev ht
                have hx := (hf.op x ht).strip
                simp only [vOp] at hv
                simp only [evOpE] at hev
                split at hv
                · rename_i o' off hxe
                  simp only [Option.some.injEq, Prod.mk.injEq] at hv
                  have hxe' : (evalV (rs i) x).strip = .ptr o' off := hxe
                  rw [hxe'] at hx
                  rw [← hv.1]
                  generalize evalE (envOf (αs i)) x = xa at hx hev
                  cases hx with
                  | ptr _ _ b hb =>
                    simp only [Option.some.injEq, Prod.mk.injEq] at hev
                    rw [← hev.1]
                    exact .ptr _ _ _ hb
                · rename_i cs off hxe
                  simp only [Option.some.injEq, Prod.mk.injEq] at hv
                  have hxe' : (evalV (rs i) x).strip = .ro cs off := hxe
                  rw [hxe'] at hx
                  rw [← hv.1]
                  generalize evalE (envOf (αs i)) x = xa at hx hev
                  cases hx with
                  | ro _ _ b base ws h1 h2 h3 h4 =>
                    simp only [Option.some.injEq, Prod.mk.injEq] at hev
                    rw [← hev.1]
                    exact .ro _ _ _ _ _ h1 h2 h3 h4
                · rename_i k a b hxe
                  simp only [Option.some.injEq, Prod.mk.injEq] at hv
                  have hxe' : (evalV (rs i) x).strip = .func k a b := hxe
                  rw [hxe'] at hx
                  rw [← hv.1]
                  generalize evalE (envOf (αs i)) x = xa at hx hev
                  cases hx with
                  | func _ _ _ c1 c2 h1 h2 =>
                    simp only [Option.some.injEq, Prod.mk.injEq] at hev
                    rw [← hev.1]
                    exact .func _ _ _ _ _ h1 h2
                · cases hv
              | fieldAddr s x n =>
                rw [hop] at hv hev ht
                have hx := hf.op x ht
                simp only [vOp] at hv
                simp only [evOpE] at hev
                split at hv
                · rename_i o' off k ft hxe hfd
                  rw [hxe] at hx
                  generalize evalE (envOf (αs i)) x = xa at hx hev
                  split at hv
                  · rename_i m hsz
                    simp only [Option.some.injEq, Prod.mk.injEq] at hv
                    rw [← hv.1]
                    cases hx with
                    | ptr _ _ b hb =>
                      simp only [hfd, hsz, Option.some.injEq, Prod.mk.injEq] at hev
                      rw [← hev.1]
                      exact .ptr _ _ _ hb
                  · cases hv
                · rename_i cs off k ft hxe hfd
                  rw [hxe] at hx
                  generalize evalE (envOf (αs i)) x = xa at hx hev
                  split at hv
                  · rename_i m hsz
                    simp only [Option.some.injEq, Prod.mk.injEq] at hv
                    rw [← hv.1]
                    cases hx with
                    | ro _ _ b base ws h1 h2 h3 h4 =>
                      simp only [hfd, hsz, Option.some.injEq, Prod.mk.injEq] at hev
                      rw [← hev.1, Nat.add_assoc]
                      exact .ro _ _ _ _ _ h1 h2 h3 h4
                  · cases hv
                · cases hv
              | field s x n =>
                rw [hop] at hv hev ht
                have hx := (hf.op x ht).strip
                simp only [vOp] at hv
                simp only [evOpE] at hev
                split at hv
                · rename_i cs k ft hxe hfd
                  have hxe' : (evalV (rs i) x).strip = .agg cs := hxe
                  rw [hxe'] at hx
                  generalize evalE (envOf (αs i)) x = xa at hx hev
                  simp only [Option.map_eq_some_iff, Prod.mk.injEq] at hv
                  obtain ⟨u, hu, hu2, _, _⟩ := hv
                  rw [← hu2]
                  cases hx with
                  | agg _ as hvs =>
                    obtain ⟨a, q1, q2⟩ := part_sim hvs k hu
                    simp only [hfd] at hev
                    have : a = vs i := by
                      cases hag : tAgg P ft with
                      | none => rw [hag] at q1; simp at q1
                      | some ag =>
                        rw [hag] at q1 hev
                        cases ag with
                        | true =>
                          cases hn : tSize P ft with
                          | none => rw [hn] at q1; simp at q1
                          | some n =>
                            rw [hn] at q1 hev
                            simp only at q1 hev
                            split at q1
                            · rename_i hle
                              rw [if_pos hle] at hev
                              simp only [Option.some.injEq, Prod.mk.injEq] at q1 hev
                              rw [← q1, hev.1]
                            · cases q1
                        | false =>
                          simp only at q1 hev
                          rw [q1] at hev
                          simp only [Option.some.injEq, Prod.mk.injEq] at hev
                          exact hev.1
                    rw [← this]
                    exact q2.strip
                · cases hv
              | indexAddr s x n =>
                rw [hop] at hv hev ht
                have hx := hf.op x ht
                have hni : ∀ k, natOfV (evalV (rs i) n) = some k → natOf (evalE (envOf (αs i)) n) = some k := fun k hk => by
                  have := natOf_sim (evalV_VA (h.st i hi).2 n) hk
                  rw [hfa i hi] at this
                  exact this
                simp only [vOp] at hv
                simp only [evOpE] at hev
                split at hv
                · rename_i e own els k hu hxe hix
                  rw [hxe] at hx
                  have hni := hni k hix
                  generalize evalE (envOf (αs i)) x = xa at hx hev
                  split at hv
                  · rename_i el hel
                    split at hv
                    · rename_i hsz
                      simp only [Option.some.injEq, Prod.mk.injEq] at hv
                      rw [← hv.1]
                      have hlt' : k < els.length := (List.getElem?_eq_some_iff.1 hel).1
                      cases hx with
                      | nils _ => simp at hel
                      | vec _ _ b off cap esz ws h1 h2 h3 h4 h5 =>
                        have hes := (h4 k el hel).1
                        have hm : (k + 1) * esz ≤ els.length * esz := Nat.mul_le_mul_right _ hlt'
                        rw [Nat.add_mul, Nat.one_mul] at hm
                        simp only [hu, hni] at hev
                        rw [if_pos ⟨hlt', by rw [hsz, hes]⟩] at hev
                        simp only [Option.some.injEq, Prod.mk.injEq] at hev
                        rw [← hev.1]
                        exact VA.ro (g := gs 0) el 0 b (off + k * esz) ws h1 (by omega) (h4 k el hel).2 (by rw [hes]; exact h5 k el hel)
                    · cases hv
                  · cases hv
                · rename_i e o' off len cap esz k hu hxe hix
                  rw [hxe] at hx
                  have hni := hni k hix
                  generalize evalE (envOf (αs i)) x = xa at hx hev
                  split at hv
                  · rename_i hcnd
                    simp only [Option.some.injEq, Prod.mk.injEq] at hv
                    rw [← hv.1]
                    cases hx with
                    | sl _ _ _ b _ _ hb =>
                      simp only [hu, hni] at hev
                      rw [if_pos hcnd] at hev
                      simp only [Option.some.injEq, Prod.mk.injEq] at hev
                      rw [← hev.1]
                      exact .ptr _ _ _ hb
                  · cases hv
                · cases hv
              | load ty x =>
                rw [hop] at hv hev ht
                simp only [Bool.and_eq_true] at ht
                have hx := hf.op x ht.2
                have hcalm := hok ht.1
                simp only [vOp] at hv
                simp only [evOpE] at hev
                split at hv
                · rename_i o' off hxe
                  rw [hxe] at hx
                  generalize evalE (envOf (αs i)) x = xa at hx hev
                  cases hx with
                  | ptr _ _ b hb =>
                  split at hv
                  · rename_i cs hcs
                    obtain ⟨as, q1, _⟩ := (h.st i hi).1.obj o' _ b hcs ((h.post 0 i (by omega)).le.blk _ _ hb |> fun z => by rw [Nat.zero_add] at z; exact z)
                    obtain ⟨z1, z2⟩ := h.held hb i hi hcalm cs as hcs q1
                    split at hv
                    · rename_i u hu
                      have hal := z1.length
                      obtain ⟨a, y1, y2, _⟩ := loadA_as (g := gs 0) hu z2 q1 (base := 0) (by omega) (by rw [List.drop_zero, ← hal, List.take_length]; exact z1)
                      rw [Nat.zero_add] at y1
                      rw [hHi] at hev
                      simp only [y1, Option.map_some, Option.some.injEq, Prod.mk.injEq] at hev
                      rw [← hev.1]
                      split at hv
                      · split at hv
                        · simp only [Option.some.injEq, Prod.mk.injEq] at hv; rw [← hv.1]; exact y2
                        · cases hv
                      · simp only [Option.some.injEq, Prod.mk.injEq] at hv; rw [← hv.1]; exact y2.strip
                    · cases hv
                  · cases hv
                · rename_i cs off hxe
                  rw [hxe] at hx
                  generalize evalE (envOf (αs i)) x = xa at hx hev
                  simp only [Option.map_eq_some_iff, Prod.mk.injEq] at hv
                  obtain ⟨u, hu, hu2, _, _⟩ := hv
                  rw [← hu2]
                  cases hx with
                  | ro _ _ b base ws h1 h2 h3 h4 =>
                    have hle0 := (h.post 0 i (by omega)).le
                    rw [Nat.zero_add] at hle0
                    obtain ⟨ow, q1⟩ := (h.st i hi).1.fro b ws (hle0.C _ _ h1)
                    obtain ⟨a, y1, y2, _⟩ := loadA_as (g := gs 0) hu h3 q1 h2 h4
                    rw [hHi] at hev
                    simp only [y1, Option.map_some, Option.some.injEq, Prod.mk.injEq] at hev
                    rw [← hev.1]
                    exact y2.strip
                · cases hv
              | _ => rw [hop] at ht; cases ht
            · rw [hq] at ht; cases ht
        · rw [if_neg e] at ht ⊢
          rw [if_neg e]
          exact rest_ t ht
end
end Go.Vw
end
section
/- A region whose order is open: the reads. -/
namespace Go.Vw
open Go Go.RowKit Go.Abs

section
variable {P : Program} {K : Knobs} {call : CallF} {Pr : Nat → Prop}
variable {c : CxF} {ops : List Oper} {g : Gh} {σ : St} {ρ : VEnv} {σ' : St} {ρ' : VEnv} {α : List AV} {H : AH} {tr : List Tr} {α' : List AV} {H' : AH} {gs : Nat → Gh} {ss : Nat → St} {rs : Nat → VEnv}

theorem Runs.reads (h : Runs P K call c Pr ops ops g σ ρ σ' ρ' α H tr α' H' gs ss rs) (hfr : inFrame c.N ops = true) (hN : α.length = c.N) (hl : loadsOK P c.wm K.quiet ops = true) (hsep : (seps P ops).all (apartB ρ') = true) : readsOK P ops tr H H' = true := by
  obtain ⟨αs, Hs, rn, vs, T⟩ := trace_facts ops ops α H tr α' H' h.run
  unfold readsOK
  rw [List.all_eq_true]
  intro j hj
  have hj : j < ops.length := List.mem_range.1 hj
  obtain ⟨r, hr, hs⟩ := h.step j _ (List.getElem?_eq_getElem hj)
  rw [List.getElem?_eq_getElem hj, hr]
  simp only
  cases hop : ops[j].op with
  | load t x =>
    simp only
    cases hran : r.ran with
    | false => rfl
    | true =>
      simp only [Bool.not_true, Bool.false_or]
      obtain ⟨r', hr', e1, e2, e3⟩ := T.tr_ j _ (List.getElem?_eq_getElem hj)
      rw [hr] at hr'
      simp only [Option.some.injEq] at hr'
      subst hr'
      have hev := (T.step j _ (List.getElem?_eq_getElem hj)).2.1 (by rw [← e2]; exact hran)
      rw [hop] at hev
      obtain ⟨ρ1, w, _, _, n3, _⟩ := hs.env
      have hHj : heapAt tr H' j = Hs j := T.at_ j (by omega)
      have hEj : ER (gs j) (heapAt tr H' j) Pr (rs j) (envOf (αs j)) := by
        have := (h.st j (by omega)).2
        unfold frameAt at this
        rw [hr] at this
        simp only [e1] at this
        exact this
      have hSj := (h.st j (by omega)).1
      have hxv := evalV_VA hEj x
      rw [evalE_of] at hxv
      -- what loadsOK says here
      have hlj := List.all_eq_true.1 hl j (List.mem_range.2 hj)
      rw [List.getElem?_eq_getElem hj] at hlj
      simp only [hop, Bool.and_eq_true, List.all_eq_true, List.mem_range] at hlj
      obtain ⟨l1, l2⟩ := hlj
      rcases n3 hran with ⟨tk, hv⟩ | ⟨q, y, hq, _⟩
      · rw [hop] at hv
        -- the address
        have haddr : ∃ b off, evalO (αs j) x = .ptr b off := by
          simp only [vOp] at hv
          split at hv
          · rename_i o' off hxe
            rw [hxe] at hxv
            generalize evalO (αs j) x = xa at hxv
            cases hxv with
            | ptr _ _ b hb => exact ⟨b, off, rfl⟩
          · rename_i cs off hxe
            rw [hxe] at hxv
            generalize evalO (αs j) x = xa at hxv
            cases hxv with
            | ro _ _ b base ws h1 h2 h3 h4 => exact ⟨b, base + off, rfl⟩
          · cases hv
        obtain ⟨b, off, hb⟩ := haddr
        rw [e1, hb]
        simp only
        have hld : loadA P t (Hs j) b off = some (vs j) := by
          simp only [evOp, evOpE, hb, Option.map_eq_some_iff, Prod.mk.injEq] at hev
          obtain ⟨v, k1, k2, _⟩ := hev
          rw [k1, k2]
        -- the block is the same, while all writers are mild
        have stable : (∀ i, i ≤ j → Calm P K c ops i j → ((gs i).blk = (gs i).blk) → (∀ o' , (∃ off', evalV (rs j) x = .ptr o' off') → (gs i).blk o' = some b) → (∀ cs off', evalV (rs j) x = .ro cs off' → ∃ ws, (gs i).C b = some ws) → loadA P t (heapAt tr H' i) b off = some (vs j)) ∧
            (∀ k, j ≤ k → k ≤ ops.length → (∀ o', (∃ off', evalV (rs j) x = .ptr o' off') → CalmX P K c ops rs o' j k) → loadA P t (heapAt tr H' k) b off = some (vs j)) := by
          have hv' := hv
          simp only [vOp] at hv'
          split at hv'
          · rename_i o' off' hxe
            split at hv'
            · rename_i cs hcs
              have hbj : (gs j).blk o' = some b := by
                rw [hxe, hb] at hxv
                cases hxv with
                | ptr _ _ _ hbb => exact hbb
              have hal : ∃ y, (ss j).get o' = some y ∧ y ≠ .dead := ⟨_, hcs, fun e => by cases e⟩
              refine ⟨fun i hi hc _ hbi _ => ?_, fun k hk hkn hc => ?_⟩
              · have := h.back (hbi o' ⟨off', hxe⟩) (j - i) (by omega) (by rw [show i + (j - i) = j by omega]; exact hc) (by rw [show i + (j - i) = j by omega]; exact hal)
                rw [show i + (j - i) = j by omega] at this
                rw [← hld, ← hHj]
                exact loadA_get (fun n => rd_get this.2.symm off n) 
              · have := h.forthX hbj hal (k - j) (by omega) (by rw [show j + (k - j) = k by omega]; exact hc o' ⟨off', hxe⟩)
                rw [show j + (k - j) = k by omega] at this
                rw [← hld, ← hHj]
                exact loadA_get (fun n => rd_get this.2 off n)
            · cases hv'
          · rename_i cs off' hxe
            have hcj : ∃ ws, (gs j).C b = some ws := by
              rw [hxe, hb] at hxv
              generalize hz : AV.ptr b off = z at hxv
              cases hxv with
              | ro _ _ b' base ws h1 h2 h3 h4 => cases hz; exact ⟨ws, h1⟩
            obtain ⟨ws, hws⟩ := hcj
            obtain ⟨ow, hgj⟩ := hSj.fro b ws hws
            refine ⟨fun i hi _ _ _ hCi => ?_, fun k hk hkn _ => ?_⟩
            · obtain ⟨ws', hws'⟩ := hCi cs off' hxe
              have hp := (h.post i (j - i) (by omega)).le.C b ws' hws'
              rw [show i + (j - i) = j by omega, hws] at hp
              simp only [Option.some.injEq] at hp
              subst hp
              obtain ⟨ow', hgi⟩ := (h.st i (by omega)).1.fro b ws hws'
              rw [← hld, ← hHj]
              exact loadA_cells hgi hgj
            · have hp := (h.post j (k - j) (by omega)).le.C b ws hws
              rw [show j + (k - j) = k by omega] at hp
              obtain ⟨ow', hgk⟩ := (h.st k hkn).1.fro b ws hp
              rw [← hld, ← hHj]
              exact loadA_cells hgk hgj
          · cases hv'
        unfold readOK
        simp only [Bool.and_eq_true, decide_eq_true_eq, List.all_eq_true, List.mem_range]
        refine ⟨⟨?_, ?_⟩, ?_⟩
        · rw [hHj]
          obtain ⟨cs, ow, hg⟩ := loadA_live hld
          rcases Nat.lt_or_ge b (Hs j).next with k | k
          · exact k
          · have := hSj.low b (by rw [hHj]; exact k)
            rw [hHj, hg] at this; cases this
        · intro i hi
          have hin : i < ops.length := by omega
          rw [List.getElem?_eq_getElem hin]
          have hli := l1 i hi
          rw [List.getElem?_eq_getElem hin] at hli
          simp only [Bool.or_eq_true, Bool.and_eq_true, List.all_eq_true, List.mem_range, decide_eq_true_eq] at hli ⊢
          rcases hli with hli | ⟨hold, hcalm⟩
          · exact .inl hli
          · right
            have hcalm' : Calm P K c ops i j := by
              intro l o a1 a2 ho
              have := hcalm l a2
              rw [ho] at this
              simp only [Bool.or_eq_true, Bool.not_eq_true', decide_eq_false_iff_not, beq_eq_false_iff_ne, ne_eq] at this
              rcases this with this | this
              · exact absurd a1 this
              · exact this
            -- the address leads to nothing new
            have hx0 : VA (gs 0) (evalV (rs j) x) (evalO (αs j) x) := by
              cases x with
              | tmp s =>
                simp only at hold
                have := h.olds hfr hN ops 0 true (fun _ => true) rfl (Nat.zero_le _) (fun _ l o _ a2 _ => by omega) (fun t _ => ((h.st 0 (by omega)).2 t).1) j (by omega)
                rw [Nat.zero_add] at this
                have h2 := this s hold
                unfold frameAt at h2
                rw [hr] at h2
                simp only [e1] at h2
                exact h2
              | _ => cases hold
            have hlt0 : b < H.next := by
              have h0 := (h.st 0 (by omega)).1
              rw [heapAt_zero h.run] at h0
              rw [hb] at hx0
              simp only [vOp] at hv
              split at hv
              · rename_i o' off' hxe
                rw [hxe] at hx0
                cases hx0 with
                | ptr _ _ _ hbb => exact h0.blt _ _ hbb
              · rename_i cs off' hxe
                rw [hxe] at hx0
                generalize hz : AV.ptr b off = z at hx0
                cases hx0 with
                | ro _ _ b' base ws h1 h2 h3 h4 => cases hz; exact h0.Clt h1
              · cases hv
            refine ⟨hlt0, .inr ?_⟩
            have hle := (h.post 0 i (by omega)).le
            rw [Nat.zero_add] at hle
            rw [hb] at hx0
            have := stable.1 i (by omega) hcalm' rfl (fun o' ⟨off', hxe⟩ => by
              rw [hxe] at hx0
              cases hx0 with
              | ptr _ _ _ hbb => exact hle.blk _ _ hbb) (fun cs off' hxe => by
              rw [hxe] at hx0
              generalize hz : AV.ptr b off = z at hx0
              cases hx0 with
              | ro _ _ b' base ws h1 h2 h3 h4 => cases hz; exact ⟨ws, hle.C _ _ h1⟩)
            unfold loadAt
            rw [this, e3]
            exact same_refl _
        · intro k hk
          rw [List.getElem?_eq_getElem hk]
          have hlk := l2 k hk
          rw [List.getElem?_eq_getElem hk] at hlk
          simp only [Bool.or_eq_true, List.all_eq_true, List.mem_range] at hlk ⊢
          rcases hlk with hlk | hcalm
          · exact .inl hlk
          · by_cases hjk : j < k ∧ cls P ops[k].op = 3
            · right
              have hcalm' : ∀ o', (∃ off', evalV (rs j) x = .ptr o' off') → CalmX P K c ops rs o' j (k + 1) := by
                intro o' ho' l o a1 a2 ho
                by_cases e : l = j
                · subst e
                  rw [List.getElem?_eq_getElem hj] at ho
                  simp only [Option.some.injEq] at ho
                  subst ho
                  left; left
                  rw [hop]
                  simp [cls]
                · have := hcalm l a2
                  rw [ho] at this
                  simp only [Bool.or_eq_true, Bool.not_eq_true', decide_eq_false_iff_not, beq_eq_false_iff_ne, ne_eq] at this
                  rcases this with this | this | this
                  · omega
                  · exact .inl this
                  · right
                    unfold lateOK at this
                    split at this
                    · rename_i xt st a y hu
                      simp only [Bool.and_eq_true, List.all_eq_true, bne_iff_ne, ne_eq] at this
                      obtain ⟨⟨q1, q2⟩, q3⟩ := this
                      refine ⟨st, .tmp a, y, hu, fun o2 off2 ha2 => ?_⟩
                      have hap := List.all_eq_true.1 hsep (xt, a) (by simpa using q1)
                      unfold apartB at hap
                      split at hap
                      · rename_i p1 f1 p2 f2 e1 e2
                        simp only at e1 e2
                        rw [← h.rN] at e1 e2
                        have k1 := h.keep (i := j) (ops.length - j) (by omega) (fun m z b1 b2 hz => q2 z (by
                          rw [show m = j + (m - j) by omega] at hz
                          rw [← List.getElem?_drop] at hz
                          exact List.mem_of_getElem? hz)) (by rw [show j + (ops.length - j) = ops.length by omega]; exact e1)
                        have hln := (List.getElem?_eq_some_iff.1 ho).1
                        have k2 := h.keep (i := l) (ops.length - l) (by omega) (fun m z b1 b2 hz => q3 z (by
                          rw [show m = l + (m - l) by omega] at hz
                          rw [← List.getElem?_drop] at hz
                          exact List.mem_of_getElem? hz)) (by rw [show l + (ops.length - l) = ops.length by omega]; exact e2)
                        obtain ⟨off', ho'⟩ := ho'
                        simp only [evalV] at ho' ha2
                        rw [k1] at ho'
                        rw [k2] at ha2
                        cases ho'; cases ha2
                        intro e
                        subst e
                        simp at hap
                      · cases hap
                    · cases this
              have := stable.2 (k + 1) (by omega) (by omega) hcalm'
              unfold loadAt
              rw [this, e3]
              exact same_refl _
            · left; left
              simp only [Bool.not_eq_true', Bool.and_eq_false_iff, decide_eq_false_iff_not, beq_eq_false_iff_ne, ne_eq]
              by_cases q : j < k
              · exact .inr (fun e => hjk ⟨q, e⟩)
              · exact .inl q
      · rw [hop] at hq; cases hq
  | _ => rfl

/-- The draw. -/
theorem Runs.draw (h : Runs P K call c Pr ops ops g σ ρ σ' ρ' α H tr α' H' gs ss rs) (hfr : inFrame c.N ops = true) (hN : α.length = c.N) (hl : loadsOK P c.wm K.quiet ops = true) (hst : staticOK P ops c.N = true) (hsep : (seps P ops).all (apartB ρ') = true) : evDraw P call ops α H = some (α', H') := by
  unfold evDraw
  rw [h.run]
  simp only
  rw [if_pos ⟨by rw [hN]; exact hst, h.reads hfr hN hl hsep⟩]
theorem static_frame {ops : List Oper} {n : Nat} (h : staticOK P ops n = true) : inFrame n ops = true := by
  unfold inFrame
  rw [List.all_eq_true]
  intro o ho
  obtain ⟨i, hi⟩ := List.getElem?_of_mem ho
  have := List.all_eq_true.1 h i (List.mem_range.2 (List.getElem?_eq_some_iff.1 hi).1)
  rw [hi] at this
  simp only [Bool.and_eq_true] at this
  exact this.1.2
end
end Go.Vw
end
section
/- The second evaluator stands for the first. -/
namespace Go.Vw
open Go Go.RowKit Go.Abs

section
variable {P : Program} {K : Knobs} {X : ExtV} {ext : Nat → Option (List AV → AH → Option (AV × AH))}

def SimCall (K : Knobs) (L : CallF) (fl f : Nat) (args : List V) (σ : St) (v : V) (σ' : St) : Prop :=
  ∀ (g : Gh) (Pr : Nat → Prop) (H : AH) (avs : List AV), SR g Pr σ H → VAs g args avs → (∀ a ∈ args, a.strip = a) → ∃ a H' g', L f avs H = some (a, H') ∧ Post g g' Pr σ σ' (if K.quiet f then max fl σ.size else fl) H H' ∧ VA g' v a ∧ OwnV g' H' Pr .val v a
def Sim (P : Program) (K : Knobs) (ext : Nat → Option (List AV → AH → Option (AV × AH))) : Job → Prop
  | .call fl f args σ v σ' => SimCall K (lim P ext) fl f args σ v σ'
  | .code c k ρ σ ex ρ' σ' => ∀ (g : Gh) (Pr : Nat → Prop) (H : AH) (ρA : Env), SR g Pr σ H → ER g H Pr ρ ρA → Go.Abs.V P ext c.N k ρA H (fun ex' ρA' H' => ex' = ex ∧ ∃ g', Post g g' Pr σ σ' c.fl H H' ∧ ER g' H' Pr ρ' ρA')
  | .ops c all i rest ρ σ ρ' σ' => ∀ (g : Gh) (Pr : Nat → Prop) (H : AH) (α : List AV), SR g Pr σ H → ER g H Pr ρ (envOf α) → α.length = c.N → inFrame c.N rest = true → ∃ tr α' H' gs ss rs, Runs P K (lim P ext) c Pr all rest g σ ρ σ' ρ' α H tr α' H' gs ss rs

theorem VAs.strip {g : Gh} : ∀ {l : List V} {c : List AV}, VAs g l c → VAs g (l.map V.strip) c
  | _, _, .nil => .nil
  | _, _, .cons _ _ _ _ h k => .cons _ _ _ _ h.strip (VAs.strip k)
theorem VA.stripAll {g : Gh} {v : V} {a : AV} (h : VA g v a) : VA g v.stripAll a := by
  cases h with
  | tuple l c h => exact .tuple _ _ h.strip
  | undef a => exact .undef a
  | nils own => exact .nils false
  | agg l c h => exact .agg _ _ h.strip1
  | vec own els b off cap esz vs h1 h2 h3 h4 h5 => exact .vec false els b off cap esz vs h1 h2 h3 h4 h5
  | _ => constructor <;> assumption
theorem stripAll_idem (v : V) : v.stripAll.stripAll = v.stripAll := by
  cases v with
  | tuple l => simp only [V.stripAll, List.map_map]; congr 1; exact List.map_congr_left (fun y _ => strip_strip y)
  | agg l => exact strip_strip (.agg l)
  | _ => rfl
theorem OwnV.stripAll {g : Gh} {H : AH} {Pr : Nat → Prop} {p : Nat → Pos} {v : V} {a : AV} (h : v.stripAll = v) : OwnV g H Pr p v a := by
  cases v with
  | tuple l => exact OwnV.scalar (fun _ e => by cases e) rfl
  | agg l => exact noown_strip1 (show (V.agg l).strip = V.agg l from h)
  | vec own els => exact noown_strip1 (show (V.vec own els).strip = V.vec own els from h)
  | _ => exact OwnV.scalar (fun _ e => by cases e) rfl

theorem yielded_sim {g : Gh} {H : AH} {Pr : Nat → Prop} {ρ : VEnv} {α : List AV} (hE : ER g H Pr ρ (envOf α)) {all : List Oper} {j : Nat} {b : Option Bool} (h : yieldedV all ρ j = some b) : yieldedA all α j = some b := by
  unfold yieldedV at h
  unfold yieldedA
  cases hd : (all[j]?).bind (·.dst) with
  | none => rw [hd] at h; cases h
  | some d =>
    rw [hd] at h
    simp only at h ⊢
    have look : ∀ v : AV, v ≠ .undef → envOf α d = v → α[d]? = some v := by
      intro v hv e
      unfold envOf at e
      rw [List.getD_eq_getElem?_getD] at e
      cases hq : α[d]? with
      | none => rw [hq] at e; exact absurd e.symm hv
      | some x => rw [hq] at e; simp only [Option.getD_some] at e; rw [e]
    unfold yieldV at h
    split at h
    · rename_i b' hb
      simp only [Option.some.injEq] at h
      subst h
      have := (hE d).1
      rw [hb] at this
      have e : envOf α d = .bool b' := by
        generalize envOf α d = x at this
        cases this
        rfl
      rw [look _ (fun e => by cases e) e]
    · rename_i hb
      simp only [Option.some.injEq] at h
      subst h
      have := (hE d).1
      rw [hb] at this
      have e : envOf α d = .tuple [] := by
        generalize envOf α d = x at this
        cases this with
        | tuple l c hc => cases hc; rfl
      rw [look _ (fun e => by cases e) e]
    · cases h
theorem goes_sim {g : Gh} {H : AH} {Pr : Nat → Prop} {ρ : VEnv} {α : List AV} (hE : ER g H Pr ρ (envOf α)) {all : List Oper} {o : Oper} {b : Bool} (h : goesV all ρ o = some b) : goes all α o = some b := by
  unfold goesV at h
  unfold goes
  cases hg : o.guard with
  | none => rw [hg] at h; exact h
  | some q =>
    obtain ⟨j, want⟩ := q
    rw [hg] at h
    simp only [Option.map_eq_some_iff] at h ⊢
    obtain ⟨y, hy, h⟩ := h
    exact ⟨y, yielded_sim hE hy, h⟩

theorem iter_post {g g1 : Gh} {Pr : Nat → Prop} {σ σ1 : St} {fl : Nat} {H H1 : AH} {ρ1 : VEnv} {ρA : Env} (hg : g.μ.length = σ.size) (h : Post g g1 Pr σ σ1 fl H H1) (hE : ER g1 H1 Pr ρ1 ρA) (tl : Bool) :
    ∃ g2, Post g g2 Pr σ (iterEnd tl σ.size ρ1 σ1).2 fl H H1 ∧ ER g2 H1 Pr (iterEnd tl σ.size ρ1 σ1).1 ρA := by
  cases tl with
  | false => exact ⟨g1, h, hE⟩
  | true => exact ⟨g1.trim (max σ.size σ1.pin), h.trim (Nat.le_max_left _ _) (Nat.le_max_right _ _) hg, hE.swept _⟩

theorem res_sim {g : Gh} {Pr : Nat → Prop} {σ : St} {H : AH} {ρ : VEnv} {ρA : Env} (hS : SR g Pr σ H) (hE : ER g H Pr ρ ρA) : ∀ (rs : List ResultVar) (l : List V), allA (resV P σ ρ) rs = some l → ∃ la, allA (resE P H ρA) rs = some la ∧ VAs g l la
  | [], l, h => by
    simp only [allA, Option.some.injEq] at h
    subst h
    exact ⟨[], rfl, .nil⟩
  | r :: rs, l, h => by
    simp only [allA] at h ⊢
    split at h
    · rename_i v l' hv hl'
      simp only [Option.some.injEq] at h
      subst h
      obtain ⟨la, k1, k2⟩ := res_sim hS hE rs l' hl'
      have : ∃ a, resE P H ρA r = some a ∧ VA g v a := by
        cases r with
        | tmp t =>
          simp only [resV, Option.some.injEq] at hv
          subst hv
          exact ⟨_, rfl, (hE t).1⟩
        | cell a t =>
          simp only [resV] at hv
          simp only [resE]
          have ha := (hE a).1
          split at hv
          · rename_i o off hae
            rw [hae] at ha
            generalize ρA a = x at ha
            cases ha with
            | ptr _ _ b hb =>
            split at hv
            · rename_i cs hcs
              obtain ⟨as, e1, e2, e3, e4⟩ := hS.obj o _ b hcs hb
              have hl := e2.length
              obtain ⟨x, y1, y2, _⟩ := loadA_as (g := g) hv e3 e1 (base := 0) (by omega) (by rw [List.drop_zero, ← hl, List.take_length]; exact e2)
              rw [Nat.zero_add] at y1
              exact ⟨x, y1, y2⟩
            · cases hv
          · cases hv
      obtain ⟨a, q1, q2⟩ := this
      rw [q1, k1]
      exact ⟨a :: la, rfl, .cons _ _ _ _ q2 k2⟩
    · cases h
theorem oneOrAll_VA {g : Gh} {l : List V} {la : List AV} (h : VAs g l la) : VA g (oneOrAllV l) (oneOrAll la) := by
  cases h with
  | nil => exact .tuple _ _ .nil
  | cons v a l c h1 h2 =>
    cases h2 with
    | nil => exact h1
    | cons v2 a2 l2 c2 h3 h4 => exact .tuple _ _ (.cons _ _ _ _ h1 (.cons _ _ _ _ h3 h4))

theorem VA.keep {g : Gh} {v : V} {a : AV} (h : VA g v a) : VA g v.keep a := by
  cases v with
  | vec own els => exact h
  | _ => exact h.stripAll
theorem keep_cases (v : V) : v.keep = v.stripAll ∨ v.keep = v := by
  cases v with
  | vec own els => exact .inr rfl
  | _ => exact .inl rfl
/-- What is given back. -/
theorem ret_sim {g : Gh} {Pr : Nat → Prop} {σ : St} {H : AH} {ρ : VEnv} {ρA : Env} (hS : SR g Pr σ H) (hE : ER g H Pr ρ ρA) (rs : List ResultVar) (l : List V) (hl : allA (resV P σ ρ) rs = some l) {la : List AV} (hla : allA (resE P H ρA) rs = some la) (hv : VAs g l la) :
    ∃ g', g'.μ = g.μ ∧ g'.C = g.C ∧ SR g' Pr σ H ∧ VA g' (retV rs l) (oneOrAll la) ∧ OwnV g' H Pr .val (retV rs l) (oneOrAll la) := by
  have gen : ∃ g', g'.μ = g.μ ∧ g'.C = g.C ∧ SR g' Pr σ H ∧ VA g' (oneOrAllV l).stripAll (oneOrAll la) ∧ OwnV g' H Pr .val (oneOrAllV l).stripAll (oneOrAll la) :=
    ⟨g, rfl, rfl, hS, (oneOrAll_VA hv).stripAll, OwnV.stripAll (stripAll_idem _)⟩
  unfold retV
  split
  · rename_i t v
    simp only [allA, resV, Option.some.injEq, List.cons.injEq, and_true] at hl
    subst hl
    simp only [allA, resE, Option.some.injEq] at hla
    subst hla
    obtain ⟨g', k⟩ := grab_sim hE hS true (.tmp t)
    have hva : VA g' (ρ t) (ρA t) := k.va
    refine ⟨g', k.μ, k.C, k.sr, hva.keep, ?_⟩
    have ho : OwnV g' H Pr .val (ρ t) (ρA t) := k.own
    show OwnV g' H Pr .val (ρ t).keep (ρA t)
    rcases keep_cases (ρ t) with hr | hr
    · rw [hr]; exact OwnV.stripAll (stripAll_idem _)
    · rw [hr]; exact ho
  · exact gen
theorem sim_call {fl f : Nat} {args : List V} {σ σ1 : St} {fn : Func} {c : Code} {ex : Ex} {ρ1 : VEnv} {l : List V} (hK : ∀ f, K.inn f = true → ext f = none) (hi : K.inn f = true) (hf : P.funcs[f]? = some fn) (hb : fn.body = some c) (hn : args.length ≤ fn.ntmps)
    (ih : Sim P K ext (.code ⟨fn.ntmps, K.wm f, if K.quiet f then max fl σ.size else fl, K.tl f⟩ c (fun t => args.getD t .undef) σ ex ρ1 σ1)) (hex : ex = .normal ∨ ex = .ret) (hl : allA (resV P σ1 ρ1) fn.results.toList = some l) :
    SimCall K (lim P ext) fl f args σ (callEnd σ.size (retV fn.results.toList l) σ1).1 (callEnd σ.size (retV fn.results.toList l) σ1).2 := by
  intro g Pr H avs hS hv hs
  have hE : ER g H Pr (fun t => args.getD t .undef) (fun t => avs.getD t .undef) := by
    intro t
    simp only [List.getD_eq_getElem?_getD]
    cases ha : args[t]? with
    | none => exact ⟨.undef _, OwnV.scalar (fun _ e => by cases e) rfl⟩
    | some v =>
      obtain ⟨a, h1, h2⟩ := hv.get t v ha
      rw [h1]
      exact ⟨h2, noown_strip1 (hs v (List.mem_of_getElem? ha))⟩
  have hV := ih g Pr H _ hS hE
  obtain ⟨a, H', h1, g', h2, h3, h4⟩ := V_call (hK f hi) hf hb (args := avs) (by rw [hv.length]; exact hn) (Q := fun a H' => ∃ g', Post g g' Pr σ (callEnd σ.size (retV fn.results.toList l) σ1).2 (if K.quiet f then max fl σ.size else fl) H H' ∧ VA g' (callEnd σ.size (retV fn.results.toList l) σ1).1 a ∧ OwnV g' H' Pr .val (callEnd σ.size (retV fn.results.toList l) σ1).1 a) (V_mono hV (fun ex' ρA' H' ⟨he, g1, hp, hE1⟩ => by
    subst he
    refine ⟨hex, ?_⟩
    obtain ⟨la, k1, k2⟩ := res_sim hp.sr hE1 fn.results.toList l hl
    refine ⟨la, k1, ?_⟩
    obtain ⟨g2, m1, m2, m3, hva, hown⟩ := ret_sim hp.sr hE1 fn.results.toList l hl k1 k2
    have hp2 : Post g g2 Pr σ σ1 (if K.quiet f then max fl σ.size else fl) H H' := ⟨hp.le.trans ⟨fun o b e => by unfold Gh.blk; rw [m1]; exact e, fun b vs e => by rw [m2]; exact e⟩, m3, hp.fr, hp.st⟩
    unfold callEnd
    split
    · rename_i hlow
      exact ⟨g2.trim (max σ.size σ1.pin), hp2.trim (Nat.le_max_left _ _) (Nat.le_max_right _ _) hS.len, hva.trim hlow, hown⟩
    · exact ⟨g2, hp2, hva, hown⟩))
  exact ⟨a, H', g', h1, h2, h3, h4⟩

/-- A call within a frame: the frame's own slices stay as they are. -/
theorem call_frame {g : Gh} {Pr : Nat → Prop} {σ σ1 : St} {H : AH} {ρ : VEnv} {ρA : Env} {fl : Nat} {L : CallF} {f : Nat} {args : List V} {avs : List AV} {v : V} (hS : SR g Pr σ H) (hE : ER g H Pr ρ ρA) (hc : SimCall K L fl f args σ v σ1) (hv : VAs g args avs) (hs : ∀ a ∈ args, a.strip = a) :
    ∃ a H' g', L f avs H = some (a, H') ∧ Post g g' Pr σ σ1 (if K.quiet f then max fl σ.size else fl) H H' ∧ ER g' H' Pr ρ ρA ∧ VA g' v a ∧ OwnV g' H' Pr .val v a := by
  let T : Nat → Prop := fun b => g.C b ≠ none ∧ ∃ t j, g.U b = some (.tmp t j)
  have hS' : SR g (fun b => Pr b ∨ T b) σ H := by
    refine ⟨hS.len, fun o x b h1 h2 => ?_, hS.fro, fun b hp => ?_, hS.sep, hS.dist, hS.kin, hS.kinlt, hS.low, hS.dlow, hS.pin, hS.blt, hS.tlow⟩
    · have hr := hS.obj o x b h1 h2
      have key : ∀ vs, CellsR g H Pr o b vs → CellsR g H (fun b => Pr b ∨ T b) o b vs := by
        rintro vs ⟨as, e1, e2, e3, e4⟩
        refine ⟨as, e1, e2, e3, fun j w a g1 g2 els he => ?_⟩
        rcases e4 j w a g1 g2 els he with k | ⟨b', off, cap, esz, k1, k2⟩
        · exact .inl k
        · refine .inr ⟨b', off, cap, esz, k1, ?_⟩
          rcases k2 with k2 | ⟨q1, q2, q3, q4, q5⟩
          · exact .inl k2
          · have hno : ¬ (Pr b' ∨ T b') := by
              intro hp
              rcases hp with hp | ⟨_, t, j', hp⟩
              · exact q4 hp
              · rw [q3] at hp; cases hp
            exact .inr ⟨q1, q2, q3, hno, q5⟩
      cases x with
      | cells vs => exact key vs hr
      | amap es => exact hr
      | bld t u s =>
        obtain ⟨ad, f1, f2, f3⟩ := hr
        exact ⟨ad, f1, key _ f2, f3⟩
      | dead => trivial
    · rcases hp with hp | hp
      · exact hS.pr b hp
      · exact hp.1
  obtain ⟨a, H', g', h1, h2, h3, h4⟩ := hc g _ H avs hS' hv hs
  classical
  let g2 : Gh := ⟨g'.μ, g'.C, fun b => if T b then g.U b else g'.U b⟩
  have hl2 : g'.Le g2 := ⟨fun _ _ h => h, fun _ _ h => h⟩
  have hU : ∀ b, T b → g2.U b = g.U b := fun b hb => if_pos hb
  have hU' : ∀ b, ¬ T b → g2.U b = g'.U b := fun b hb => if_neg hb
  have hS2 : SR g2 Pr σ1 H' := by
    refine ⟨h2.sr.len, fun o x b k1 k2 => ?_, h2.sr.fro, fun b hp => h2.sr.pr b (.inl hp), h2.sr.sep, h2.sr.dist, h2.sr.kin, h2.sr.kinlt, h2.sr.low, h2.sr.dlow, h2.sr.pin, h2.sr.blt, h2.sr.tlow⟩
    have hr := h2.sr.obj o x b k1 k2
    have key : ∀ vs, CellsR g' H' (fun b => Pr b ∨ T b) o b vs → CellsR g2 H' Pr o b vs := by
      rintro vs ⟨as, e1, e2, e3, e4⟩
      refine ⟨as, e1, e2.mono hl2, e3, fun j w a g1 g3 els he => ?_⟩
      rcases e4 j w a g1 g3 els he with k | ⟨b', off, cap, esz, k1, k2⟩
      · exact .inl k
      · refine .inr ⟨b', off, cap, esz, k1, ?_⟩
        rcases k2 with k2 | ⟨q1, q2, q3, q4, q5⟩
        · exact .inl k2
        · exact .inr ⟨q1, q2, by rw [hU' b' (fun h => q4 (.inr h))]; exact q3, fun h => q4 (.inl h), q5⟩
    cases x with
    | cells vs => exact key vs hr
    | bld t u s =>
      obtain ⟨ad, f1, f2, f3⟩ := hr
      exact ⟨ad, f1, key _ f2, f3⟩
    | amap es =>
      obtain ⟨aes, e1, e2, e3⟩ := hr
      exact ⟨aes, e1, e2, fun i k v hi => by
        obtain ⟨ka, va, q1, q2, q3, q4⟩ := e3 i k v hi
        exact ⟨ka, va, q1, q2.mono hl2, q3.mono hl2, q4⟩⟩
    | dead => trivial
  refine ⟨a, H', g2, h1, ⟨h2.le.trans hl2, hS2, ⟨fun b hp => h2.fr.pr b (.inl hp), h2.fr.fl, h2.fr.next, h2.fr.ty⟩, h2.st⟩, fun t => ?_, h3.mono hl2, ?_⟩
  · exact ⟨((hE t).1.mono h2.le).mono hl2, (hE t).2.keep (hE t).1 (fun j b hc hu => by
    have hT : T b := ⟨hc, t, j, hu⟩
    exact ⟨by rw [hU b hT]; exact hu, h2.fr.pr b (.inr hT)⟩)⟩
  · intro j w y g1 g3 els he
    rcases h4 j w y g1 g3 els he with k | ⟨b', off, cap, esz, k1, k2⟩
    · exact .inl k
    · refine .inr ⟨b', off, cap, esz, k1, ?_⟩
      rcases k2 with k2 | ⟨q1, q2, q3, q4, q5⟩
      · exact .inl k2
      · exact .inr ⟨q1, q2, by rw [hU' b' (fun h => q4 (.inr h))]; exact q3, fun h => q4 (.inl h), q5⟩

theorem sim (hmix : P.follows .mixedOrders = true) (hK : ∀ f, K.inn f = true → ext f = none) (hX : ∀ fl f args σ v σ', X fl f args σ v σ' → SimCall K (lim P ext) fl f args σ v σ') : ∀ {j : Job}, Big P K X j → Sim P K ext j := by
  intro j h
  induction h with
  | ext hx => exact hX _ _ _ _ _ _ hx
  | body hi hf hb hn _ hex hl ih => exact sim_call hK hi hf hb hn ih hex hl
  | skip => exact fun g Pr H ρA hS hE => V_skip ⟨rfl, g, Post.refl hS, hE⟩
  | exit => exact fun g Pr H ρA hS hE => V_exit ⟨rfl, g, Post.refl hS, hE⟩
  | ret => exact fun g Pr H ρA hS hE => V_ret ⟨rfl, g, Post.refl hS, hE⟩
  | seq _ _ ih1 ih2 =>
    intro g Pr H ρA hS hE
    refine V_seq (V_mono (ih1 g Pr H ρA hS hE) (fun ex' ρA' H' ⟨he, g1, hp, hE1⟩ => ?_))
    subst he
    exact V_mono (ih2 g1 Pr H' ρA' hp.sr hE1) (fun ex2 ρA2 H2 ⟨he2, g2, hp2, hE2⟩ => ⟨he2, g2, hp.trans hp2, hE2⟩)
  | seqx _ hne ih =>
    intro g Pr H ρA hS hE
    refine V_seq (V_mono (ih g Pr H ρA hS hE) (fun ex' ρA' H' ⟨he, hr⟩ => ?_))
    subst he
    rename_i ex _ _ _ _
    cases ex' with
    | normal => exact absurd rfl hne
    | exit k => exact ⟨rfl, hr⟩
    | ret => exact ⟨rfl, hr⟩
  | @cond c x y z ρ σ b ex ρ' σ' hb _ ih =>
    intro g Pr H ρA hS hE
    have hv := evalV_VA hE x
    rw [hb] at hv
    have : evalE ρA x = .bool b := by
      generalize evalE ρA x = xa at hv
      cases hv
      rfl
    exact V_cond this (ih g Pr H ρA hS hE)
  | @block c id x ρ σ ex ρ' σ' _ ih =>
    intro g Pr H ρA hS hE
    refine V_block (V_mono (ih g Pr H ρA hS hE) (fun ex' ρA' H' ⟨he, hr⟩ => ?_))
    subst he
    cases ex' with
    | normal => exact ⟨rfl, hr⟩
    | exit k => exact ⟨rfl, hr⟩
    | ret => exact ⟨rfl, hr⟩
  | @loop c x ρ σ ρ1 σ1 ex ρ' σ' _ _ ih1 ih2 =>
    intro g Pr H ρA hS hE
    refine V_loop (V_mono (ih1 g Pr H ρA hS hE) (fun ex' ρA' H' ⟨he, g1, hp, hE1⟩ => ?_))
    subst he
    obtain ⟨g2, hp2, hE2⟩ := iter_post hS.len hp hE1 c.tl
    exact V_mono (ih2 g2 Pr H' ρA' hp2.sr hE2) (fun ex2 ρA2 H2 ⟨he2, g3, hp3, hE3⟩ => ⟨he2, g3, hp2.trans hp3, hE3⟩)
  | @loopx c x ρ σ id ρ1 σ1 _ ih =>
    intro g Pr H ρA hS hE
    refine V_loop (V_mono (ih g Pr H ρA hS hE) (fun ex' ρA' H' ⟨he, g1, hp, hE1⟩ => ?_))
    subst he
    obtain ⟨g2, hp2, hE2⟩ := iter_post hS.len hp hE1 c.tl
    exact ⟨rfl, g2, hp2, hE2⟩
  | @loopr c x ρ σ ρ1 σ1 _ ih =>
    intro g Pr H ρA hS hE
    refine V_loop (V_mono (ih g Pr H ρA hS hE) (fun ex' ρA' H' ⟨he, hr⟩ => ?_))
    subst he
    exact ⟨rfl, hr⟩
  | @region c id ops ρ σ ρ' σ' hfr _ ih =>
    intro g Pr H ρA hS hE α hN he
    subst he
    obtain ⟨tr, α', H', gs, ss, rs, hr⟩ := ih g Pr H α hS hE hN hfr
    have hst := hr.st ops.toList.length (Nat.le_refl _)
    rw [heapAt_end _ _ _ hr.tl, frameAt_end _ _ _ hr.tl, hr.rN] at hst
    have hp := hr.post 0 ops.toList.length (by omega)
    rw [Nat.zero_add, heapAt_end _ _ _ hr.tl, hr.sN, hr.g0, hr.s0, heapAt_zero hr.run] at hp
    exact ⟨1, .normal, α', H', by simp [evCode, trace_evOps _ _ _ _ _ _ _ hr.run], hr.len, rfl, _, hp, hst.2⟩
  | @draw c id ops ρ σ ρ' σ' hlo hstc hsep _ ih =>
    intro g Pr H ρA hS hE
    refine V_draw (fun α hN he => ?_)
    subst he
    have hfr := static_frame hstc
    obtain ⟨tr, α', H', gs, ss, rs, hr⟩ := ih g Pr H α hS hE hN hfr
    have hst := hr.st ops.toList.length (Nat.le_refl _)
    rw [heapAt_end _ _ _ hr.tl, frameAt_end _ _ _ hr.tl, hr.rN] at hst
    have hp := hr.post 0 ops.toList.length (by omega)
    rw [Nat.zero_add, heapAt_end _ _ _ hr.tl, hr.sN, hr.g0, hr.s0, heapAt_zero hr.run] at hp
    exact ⟨α', H', hr.draw hfr hN hlo hstc hsep, hr.len, rfl, _, hp, hst.2⟩
  | nil => exact fun g Pr H α hS hE hN _ => ⟨[], α, H, _, _, _, Runs.nil hS hE hN⟩
  | @op c all i o rest ρ σ v ρ1 σ1 ρ' σ' hgo hv _ ih =>
    intro g Pr H α hS hE hN hfr
    simp only [inFrame, List.all_cons, Bool.and_eq_true] at hfr
    obtain ⟨a, H1, g1, e1, e2, e3, e4, e5, e6, e7⟩ := vOp_sim (c := ⟨P, c.wm, c.fl⟩) (call := lim P ext) hE hS hv
    obtain ⟨g2, f1, f2, f3, f4⟩ := e4.set e3 e5 e6 o.dst
    have hd : ∀ k, o.dst = some k → k < α.length := by
      intro k hk
      have := hfr.1
      rw [hk] at this
      rw [hN]
      simpa using this
    rw [← envOf_setD hd] at f4
    have hle := e3.like f1 f2
    obtain ⟨tr, α', H', gs, ss, rs, hr⟩ := ih g2 Pr H1 (setD α o.dst a) f3 f4 (by rw [length_setD]; exact hN) hfr.2
    refine ⟨_, α', H', _, _, _, Runs.cons (ran := true) (v := a) hS hE ⟨⟨e2.trans hle, f3, e7, vOp_stays hv⟩, fun hm => ?_, fun t a' x o' hop hne => ?_, ρ1, v, vOp_env hv, rfl, fun _ => .inl ⟨_, hv⟩, fun hh => by cases hh⟩ (fun l x y ht => ?_) hr⟩
    · obtain ⟨m1, m2⟩ := vOp_mild (c := ⟨P, c.wm, c.fl⟩) (wm := c.wm) (quiet := K.quiet) (call := lim P ext) rfl hE hS hm hv
      exact ⟨m1, m2 a H1 e1⟩
    · rw [hop] at hv e1
      obtain ⟨m1, m2⟩ := store_apart (c := ⟨P, c.wm, c.fl⟩) (call := lim P ext) hE hS hv hne
      exact ⟨m1, m2 a H1 e1⟩
    · rw [trace, goes_sim hE hgo]
      simp only
      rw [evOp_env, e1]
      simp only
      rw [ht]
  | @past c all i o rest ρ σ ρ' σ' hgo _ ih =>
    intro g Pr H α hS hE hN hfr
    simp only [inFrame, List.all_cons, Bool.and_eq_true] at hfr
    obtain ⟨g2, f1, f2, f3, f4⟩ := hE.set hS (VA.tuple [] [] .nil) (OwnV.scalar (fun _ e => by cases e) rfl) o.dst
    have hd : ∀ k, o.dst = some k → k < α.length := by
      intro k hk
      have := hfr.1
      rw [hk] at this
      rw [hN]
      simpa using this
    rw [← envOf_setD hd] at f4
    have hle := hS.like f1 f2
    obtain ⟨tr, α', H', gs, ss, rs, hr⟩ := ih g2 Pr H (setD α o.dst (.tuple [])) f3 f4 (by rw [length_setD]; exact hN) hfr.2
    refine ⟨_, α', H', _, _, _, Runs.cons (ran := false) (v := .tuple []) hS hE ⟨⟨hle, f3, Fr.refl _ _ _ _ _, Stays.refl _ _⟩, fun _ => ⟨fun _ _ => .inl rfl, fun _ _ _ => rfl⟩, fun _ _ _ _ _ _ => ⟨.inl rfl, fun _ _ => rfl⟩, ρ, .tuple [], fun _ => .inl rfl, rfl, (fun hh => by cases hh), fun _ => rfl⟩ (fun l x y ht => ?_) hr⟩
    rw [trace, goes_sim hE hgo]
    simp only
    rw [ht]
  | @call c all i o rest ρ σ q x k first cap v σ1 ρ' σ' hgo ho hq hx _ _ ih1 ih2 =>
    intro g Pr H α hS hE hN hfr
    simp only [inFrame, List.all_cons, Bool.and_eq_true] at hfr
    have hxv := evalV_VA hE x
    rw [hx] at hxv
    generalize hxa : evalE (envOf α) x = xa at hxv
    cases hxv with
    | func _ _ _ c1 c2 k1 k2 =>
    have hargs : VAs g (first.map V.strip ++ q.args.toList.map (evalC ρ) ++ cap.map V.strip) (c1 ++ q.args.toList.map (evalE (envOf α)) ++ c2) := (k1.strip.append (evalCs_VA hE _)).append k2.strip
    have hstr : ∀ a ∈ first.map V.strip ++ q.args.toList.map (evalC ρ) ++ cap.map V.strip, a.strip = a := by
      intro a ha
      rcases List.mem_append.1 ha with ha | ha
      · rcases List.mem_append.1 ha with ha | ha
        · obtain ⟨y, _, rfl⟩ := List.mem_map.1 ha; exact strip_strip y
        · obtain ⟨y, _, rfl⟩ := List.mem_map.1 ha; exact strip_strip _
      · obtain ⟨y, _, rfl⟩ := List.mem_map.1 ha; exact strip_strip y
    obtain ⟨a, H1, g1, e1, e2, e3, e4, e5⟩ := call_frame hS hE ih1 hargs hstr
    obtain ⟨g2, f1, f2, f3, f4⟩ := e3.set e2.sr e4 e5 o.dst
    have hd : ∀ k, o.dst = some k → k < α.length := by
      intro k hk
      have := hfr.1
      rw [hk] at this
      rw [hN]
      simpa using this
    rw [← envOf_setD hd] at f4
    have hle := e2.sr.like f1 f2
    obtain ⟨tr, α', H', gs, ss, rs, hr⟩ := ih2 g2 Pr H1 (setD α o.dst a) f3 f4 (by rw [length_setD]; exact hN) hfr.2
    have hpost : Post g g2 Pr σ σ1 (if K.quiet k then max c.fl σ.size else c.fl) H H1 := ⟨e2.le.trans hle, f3, e2.fr, e2.st⟩
    refine ⟨_, α', H', _, _, _, Runs.cons (ran := true) (v := a) hS hE ⟨hpost.less (by split <;> omega), fun hm => ?_, fun t a' x' o' hop _ => (by rw [ho] at hop; cases hop), ρ, v, fun _ => .inl rfl, rfl, fun _ => .inr ⟨q, x, ho, hq⟩, fun hh => by cases hh⟩ (fun l y z ht => ?_) hr⟩
    · have hquiet : K.quiet k = true := by
        rw [ho] at hm
        obtain ⟨callee, args, ts⟩ := q
        simp only at hq
        subst hq
        rcases hm with hm | hm
        · exact absurd rfl hm
        · simp only [mild] at hm
          cases x with
          | func k' =>
            simp only [evalV, V.func.injEq] at hx
            rw [← hx.1]
            exact hm
          | _ => cases hm
      rw [hquiet] at hpost
      exact ⟨fun o' ho' => (hpost.st.less (fl := σ.size) (by simp only [if_true]; omega)).like ho', fun o' b hal => hpost.fr.fl o' b (by
        obtain ⟨_, y, hy, _⟩ := hal
        have := getO_lt hy
        simp only [if_true]
        show o' < max c.fl σ.objs.length
        omega) hal⟩
    · rw [trace, goes_sim hE hgo]
      simp only
      have : evOp P (lim P ext) α o.op H = some (a, H1) := by
        rw [evOp_env, ho]
        simp only [evOpE, hq, hxa, e1]
      rw [this]
      simp only
      rw [ht]
end
end Go.Vw
end
section
/- How code is walked in the second evaluator. -/
namespace Go.Vw
open Go Go.RowKit Go.Abs

section
variable {P : Program} {K : Knobs} {X : ExtV}

/-! ### The store -/
theorem get_lt {σ : St} {o : Nat} {x : VObj} (h : σ.get o = some x) : o < σ.size := getO_lt h
theorem get_push_self (σ : St) (x : VObj) : (σ.push x).get σ.size = some x := by rw [get_push, if_pos rfl]
theorem get_push_ne (σ : St) (x : VObj) {o : Nat} (h : o ≠ σ.size) : (σ.push x).get o = σ.get o := by rw [get_push, if_neg h]
theorem get_put_self {σ : St} {o : Nat} {y : VObj} (h : σ.get o = some y) (x : VObj) : (σ.put o x).get o = some x := by rw [get_put σ h, if_pos rfl]
theorem put_push_self (σ : St) (x y : VObj) : (σ.push x).put σ.size y = σ.push y := by
  show St.mk (putO (_ :: _) _ _) _ = _
  rw [putO, if_pos (show σ.size = σ.objs.length from rfl)]; rfl
theorem put_push_ne (σ : St) (x y : VObj) {o : Nat} (h : o ≠ σ.size) : (σ.push x).put o y = (σ.put o y).push x := by
  show St.mk (putO (_ :: _) _ _) _ = _
  rw [putO, if_neg (show ¬ o = σ.objs.length from h)]; rfl
theorem putO_putO : ∀ (l : List VObj) (o : Nat) (x y : VObj), putO (putO l o x) o y = putO l o y
  | [], _, _, _ => rfl
  | z :: r, o, x, y => by
    rw [putO]
    by_cases e : o = r.length
    · rw [if_pos e, putO, if_pos e, putO, if_pos e]
    · rw [if_neg e, putO, length_putO, if_neg e, putO_putO r o x y, putO, if_neg e]
theorem put_put (σ : St) (o : Nat) (x y : VObj) : (σ.put o x).put o y = σ.put o y := by
  show St.mk (putO (putO _ _ _) _ _) _ = _
  rw [putO_putO]; rfl
theorem putO_comm : ∀ (l : List VObj) (o p : Nat) (x y : VObj), o ≠ p → putO (putO l o x) p y = putO (putO l p y) o x
  | [], _, _, _, _, _ => rfl
  | z :: r, o, p, x, y, h => by
    simp only [putO]
    by_cases e : o = r.length <;> by_cases e2 : p = r.length
    · omega
    · rw [if_pos e, if_neg e2, putO, if_neg e2, putO, length_putO, if_pos e]
    · rw [if_neg e, if_pos e2, putO, length_putO, if_pos e2, putO, if_neg e]
    · rw [if_neg e, if_neg e2, putO, length_putO, if_neg e2, putO, length_putO, if_neg e, putO_comm r o p x y h]
theorem put_comm (σ : St) {o p : Nat} (h : o ≠ p) (x y : VObj) : (σ.put o x).put p y = (σ.put p y).put o x := by
  show St.mk (putO (putO σ.objs o x) p y) σ.pin = St.mk (putO (putO σ.objs p y) o x) σ.pin
  rw [putO_comm _ _ _ _ _ h]
theorem putO_get : ∀ (l : List VObj) (o : Nat) (x : VObj), getO l o = some x → putO l o x = l
  | [], _, _, h => by simp [getO] at h
  | z :: r, o, x, h => by
    rw [putO]
    rw [getO] at h
    split
    · rename_i e; rw [if_pos e] at h; simp only [Option.some.injEq] at h; rw [h]
    · rename_i e; rw [if_neg e] at h; rw [putO_get r o x h]
theorem put_get {σ : St} {o : Nat} {x : VObj} (h : σ.get o = some x) : σ.put o x = σ := by
  show St.mk _ _ = _
  rw [putO_get _ _ _ h]
theorem trim_push (σ : St) (x : VObj) {n : Nat} (h : n ≤ σ.size) : (σ.push x).trim n = σ.trim n := by
  show St.mk (trimO n (_ :: _)) _ = _
  rw [trimO, if_neg (show ¬ σ.objs.length < n from by have : n ≤ σ.objs.length := h; omega)]; rfl
theorem trimO_all (n : Nat) : ∀ (l : List VObj), l.length ≤ n → trimO n l = l
  | [], _ => rfl
  | x :: r, h => by rw [trimO, if_pos (by simp at h; omega)]
theorem trim_self (σ : St) {n : Nat} (h : σ.size ≤ n) : σ.trim n = σ := by
  show St.mk (trimO n σ.objs) _ = _
  rw [trimO_all _ _ h]
theorem trimO_putO (n : Nat) : ∀ (l : List VObj) (o : Nat) (x : VObj), o < n → trimO n (putO l o x) = putO (trimO n l) o x
  | [], _, _, _ => rfl
  | z :: r, o, x, h => by
    rw [putO]
    by_cases e : o = r.length
    · rw [if_pos e, trimO, if_pos (by omega), trimO, if_pos (by omega), putO, if_pos e]
    · rw [if_neg e, trimO, length_putO, trimO]
      by_cases e2 : r.length < n
      · rw [if_pos e2, if_pos e2, putO, if_neg e]
      · rw [if_neg e2, if_neg e2, trimO_putO n r o x h]
theorem trim_put (σ : St) {o n : Nat} (x : VObj) (h : o < n) : (σ.put o x).trim n = (σ.trim n).put o x := by
  show St.mk (trimO n (putO _ _ _)) _ = _
  rw [trimO_putO _ _ _ _ h]; rfl
theorem pin_push (σ : St) (x : VObj) : (σ.push x).pin = σ.pin := rfl
theorem pin_put (σ : St) (o : Nat) (x : VObj) : (σ.put o x).pin = σ.pin := rfl
theorem pin_trim (σ : St) (n : Nat) : (σ.trim n).pin = σ.pin := rfl
theorem store_low (σ : St) {o : Nat} (x : VObj) {v : V} (h : v.low (o + 1) = true) : (⟨putO σ.objs o x, v.pins o σ.size σ.pin⟩ : St) = σ.put o x := by
  unfold V.pins
  rw [if_pos h]; rfl

/-! ### Cells -/
theorem asVal_one {t : TypeId} (h : tAgg P t = some false) (vs : List V) (off : Nat) : asVal P t vs off = vs[off]? := by
  unfold asVal cutC
  rw [h]
  simp only
  by_cases e : off + 1 ≤ vs.length
  · rw [if_pos e]
    have hlt : off < vs.length := by omega
    have : (vs.drop off).take 1 = [vs[off]] := by
      rw [List.drop_eq_getElem_cons hlt]; rfl
    rw [this, List.getElem?_eq_getElem hlt]
  · rw [if_neg e, List.getElem?_eq_none (by omega)]
theorem asVal_agg {t : TypeId} {n : Nat} (h : tAgg P t = some true) (hs : tSize P t = some n) (vs : List V) (off : Nat) : asVal P t vs off = if off + n ≤ vs.length then some (.agg ((vs.drop off).take n)) else none := by
  unfold asVal cutC
  rw [h, hs]
  simp only
  split <;> rfl
theorem splice_succ {α : Type} (a : α) (l : List α) (n : Nat) (c : List α) : splice (a :: l) (n + 1) c = a :: splice l n c := by
  unfold splice
  rw [show n + 1 + c.length = (n + c.length) + 1 by omega]
  rfl
theorem splice_zero {α : Type} (l c : List α) : splice l 0 c = c ++ l.drop c.length := by
  unfold splice; simp
theorem stripAt_succ (a : V) (l : List V) (n k : Nat) : stripAt (a :: l) (n + 1) k = a :: stripAt l n k := by
  unfold stripAt; rw [splice_succ]; rfl
theorem stripAt_zero (l : List V) (k : Nat) : stripAt l 0 k = (l.take k).map V.strip1 ++ l.drop k := by
  unfold stripAt
  rw [splice_zero]
  simp only [List.drop_zero, List.length_map, List.length_take]
  by_cases h : k ≤ l.length
  · rw [Nat.min_eq_left h]
  · rw [Nat.min_eq_right (by omega), List.drop_length, List.drop_of_length_le (by omega)]

/-! ### Walking -/
def holdsV {α : Type} (r : Option (V × VEnv × St)) (Q : V → VEnv → St → α → Prop) (x : α) : Prop := match r with
  | some (v, ρ, σ) => Q v ρ σ x
  | none => False
def holdV (r : Option (V × VEnv × St)) (Q : V → VEnv → St → Prop) : Prop := match r with
  | some (v, ρ, σ) => Q v ρ σ
  | none => False
theorem holdV_some (v : V) (ρ : VEnv) (σ : St) (Q : V → VEnv → St → Prop) : holdV (some (v, ρ, σ)) Q = Q v ρ σ := rfl
theorem holdV_congr {r r' : Option (V × VEnv × St)} {Q : V → VEnv → St → Prop} (h : r = r') : holdV r Q = holdV r' Q := by rw [h]
def callV (P : Program) (K : Knobs) (X : ExtV) (fl f : Nat) (args : List V) (σ : St) (Q : V → St → Prop) : Prop := ∃ v σ', Big P K X (.call fl f args σ v σ') ∧ Q v σ'
theorem callV_congr {fl f f' : Nat} {args args' : List V} {σ : St} {Q : V → St → Prop} (h : f = f') (h' : args = args') : callV P K X fl f args σ Q = callV P K X fl f' args' σ Q := by rw [h, h']
theorem callV_of {fl f : Nat} {args : List V} {σ : St} {Q : V → St → Prop} {v : V} {σ' : St} (h : Big P K X (.call fl f args σ v σ')) (hq : Q v σ') : callV P K X fl f args σ Q := ⟨v, σ', h, hq⟩
/-- Who is called. -/
def funcV (v : V) (Q : Nat → List V → List V → Prop) : Prop := match v with | .func k a b => Q k a b | _ => False
theorem funcV_func (k : Nat) (a b : List V) (Q : Nat → List V → List V → Prop) : funcV (.func k a b) Q = Q k a b := rfl
theorem funcV_congr {v v' : V} {Q : Nat → List V → List V → Prop} (h : v = v') : funcV v Q = funcV v' Q := by rw [h]

def isCallOp (o : Op) : Bool := match o with | .call q => (match q.callee with | .value _ => true | _ => false) | _ => false
def stepV (P : Program) (K : Knobs) (X : ExtV) (c : CxF) (tk : Bool) (o : Op) (ρ : VEnv) (σ : St) (Q : V → VEnv → St → Prop) : Prop :=
  match o with
  | .call ⟨.value x, args, _⟩ => funcV (evalV ρ x) fun k first cap => callV P K X c.fl k (first.map V.strip ++ args.toList.map (evalC ρ) ++ cap.map V.strip) σ fun v σ => Q v ρ σ
  | o => holdV (vOp ⟨P, c.wm, c.fl⟩ tk ρ o σ) Q
def condV (b : Option Bool) (Q : Bool → Prop) : Prop := match b with | some b => Q b | none => False
theorem condV_some (b : Bool) (Q : Bool → Prop) : condV (some b) Q = Q b := rfl
theorem condV_congr {b b' : Option Bool} {Q : Bool → Prop} (h : b = b') : condV b Q = condV b' Q := by rw [h]
def boolV (v : V) : Option Bool := match v with | .bool b => some b | _ => none
/-- Is this what a guard wants? -/
def gateV (v : V) (w : Bool) : Option Bool := (yieldV v).map (· == some w)
theorem boolV_bool (b : Bool) : boolV (.bool b) = some b := rfl

/-- The operations of a region, with what each takes. -/
def runV (P : Program) (K : Knobs) (X : ExtV) (c : CxF) (ops : List Oper) : List (Oper × Bool) → VEnv → St → (VEnv → St → Prop) → Prop
  | [], ρ, σ, Q => Q ρ σ
  | (o, tk) :: rest, ρ, σ, Q => match o.guard with
    | none => stepV P K X c tk o.op ρ σ fun v ρ σ => runV P K X c ops rest (updVD ρ o.dst v) σ Q
    | some (j, want) => match (ops[j]?).bind (·.dst) with
      | some d => condV (gateV (ρ d) want) fun b => if b = true then stepV P K X c tk o.op ρ σ fun v ρ σ => runV P K X c ops rest (updVD ρ o.dst v) σ Q else runV P K X c ops rest (updVD ρ o.dst (.tuple [])) σ Q
      | none => False
def withTakes (ops : List Oper) : Nat → List Oper → List (Oper × Bool)
  | _, [] => []
  | i, o :: r => (o, takes ops i o) :: withTakes ops (i + 1) r

theorem stepV_sound {c : CxF} {all : List Oper} {i : Nat} {o : Oper} {rest : List Oper} {ρ : VEnv} {σ : St} {Q : VEnv → St → Prop} {ops' : List (Oper × Bool)} (hgo : goesV all ρ o = some true)
    (ih : ∀ ρ σ, runV P K X c all ops' ρ σ Q → ∃ ρ' σ', Big P K X (.ops c all (i + 1) rest ρ σ ρ' σ') ∧ Q ρ' σ') (h : stepV P K X c (takes all i o) o.op ρ σ fun v ρ σ => runV P K X c all ops' (updVD ρ o.dst v) σ Q) : ∃ ρ' σ', Big P K X (.ops c all i (o :: rest) ρ σ ρ' σ') ∧ Q ρ' σ' := by
  have plain : holdV (vOp ⟨P, c.wm, c.fl⟩ (takes all i o) ρ o.op σ) (fun v ρ σ => runV P K X c all ops' (updVD ρ o.dst v) σ Q) → ∃ ρ' σ', Big P K X (.ops c all i (o :: rest) ρ σ ρ' σ') ∧ Q ρ' σ' := by
    intro h
    unfold holdV at h
    split at h
    · rename_i v ρ1 σ1 hv
      obtain ⟨ρ', σ', h1, h2⟩ := ih _ _ h
      exact ⟨ρ', σ', .op hgo hv h1, h2⟩
    · exact h.elim
  cases hop : o.op with
  | call q =>
    obtain ⟨callee, args, ts⟩ := q
    cases callee with
    | value x =>
      rw [hop] at h
      simp only [stepV] at h
      unfold funcV at h
      split at h
      · rename_i k first cap hx
        obtain ⟨v, σ1, h1, h2⟩ := h
        obtain ⟨ρ', σ', h3, h4⟩ := ih _ _ h2
        exact ⟨ρ', σ', .call hgo hop rfl hx h1 h3, h4⟩
      · exact h.elim
    | _ => rw [hop] at h; simp only [stepV] at h; rw [← hop] at h; exact plain h
  | _ => rw [hop] at h; simp only [stepV] at h; rw [← hop] at h; exact plain h

theorem runV_sound {c : CxF} (all : List Oper) {Q : VEnv → St → Prop} : ∀ (rest : List Oper) (i : Nat) (ρ : VEnv) (σ : St), runV P K X c all (withTakes all i rest) ρ σ Q → ∃ ρ' σ', Big P K X (.ops c all i rest ρ σ ρ' σ') ∧ Q ρ' σ'
  | [], i, ρ, σ, h => ⟨ρ, σ, .nil, h⟩
  | o :: rest, i, ρ, σ, h => by
    have ih := fun ρ σ (h : runV P K X c all (withTakes all (i + 1) rest) ρ σ Q) => runV_sound all rest (i + 1) ρ σ h
    simp only [withTakes, runV] at h
    cases hg : o.guard with
    | none =>
      rw [hg] at h
      exact stepV_sound (by unfold goesV; rw [hg]) ih h
    | some q =>
      obtain ⟨j, want⟩ := q
      rw [hg] at h
      simp only at h
      cases hd : (all[j]?).bind (·.dst) with
      | none => rw [hd] at h; exact h.elim
      | some d =>
        rw [hd] at h
        simp only at h
        unfold condV at h
        split at h
        · rename_i b hb
          have hy : goesV all ρ o = some b := by
            unfold goesV
            rw [hg]
            simp only
            unfold yieldedV
            rw [hd]
            exact hb
          cases b with
          | true =>
            rw [if_pos rfl] at h
            exact stepV_sound hy ih h
          | false =>
            rw [if_neg (fun e => by cases e)] at h
            obtain ⟨ρ', σ', h1, h2⟩ := ih _ _ h
            exact ⟨ρ', σ', .past hy h1, h2⟩
        · exact h.elim

/-- Code, from a frame and a store, comes to an end that is so. -/
def W (P : Program) (K : Knobs) (X : ExtV) (c : CxF) (k : Code) (ρ : VEnv) (σ : St) (Q : Ex → VEnv → St → Prop) : Prop := ∃ ex ρ' σ', Big P K X (.code c k ρ σ ex ρ' σ') ∧ Q ex ρ' σ'
variable {c : CxF} {ρ : VEnv} {σ : St} {Q : Ex → VEnv → St → Prop}
theorem W_skip (h : Q .normal ρ σ) : W P K X c .skip ρ σ Q := ⟨_, _, _, .skip, h⟩
theorem W_exit {id : Nat} (h : Q (.exit id) ρ σ) : W P K X c (.exit id) ρ σ Q := ⟨_, _, _, .exit, h⟩
theorem W_ret (h : Q .ret ρ σ) : W P K X c .ret ρ σ Q := ⟨_, _, _, .ret, h⟩
theorem W_region {id : Nat} {ops : Array Oper} (ts : List (Oper × Bool)) (ht : withTakes ops.toList 0 ops.toList = ts) (hf : inFrame c.N ops.toList = true) (h : runV P K X c ops.toList ts ρ σ (Q .normal)) : W P K X c (.region id ops false) ρ σ Q := by
  subst ht
  obtain ⟨ρ', σ', h1, h2⟩ := runV_sound ops.toList ops.toList 0 ρ σ h
  exact ⟨_, _, _, .region hf h1, h2⟩
theorem W_draw {id : Nat} {ops : Array Oper} (ts : List (Oper × Bool)) (ht : withTakes ops.toList 0 ops.toList = ts) (hl : loadsOK P c.wm K.quiet ops.toList = true) (hf : staticOK P ops.toList c.N = true) (h : runV P K X c ops.toList ts ρ σ (fun ρ' σ' => (seps P ops.toList).all (apartB ρ') = true ∧ Q .normal ρ' σ')) : W P K X c (.region id ops true) ρ σ Q := by
  subst ht
  obtain ⟨ρ', σ', h1, h2, h3⟩ := runV_sound ops.toList ops.toList 0 ρ σ h
  exact ⟨_, _, _, .draw hl hf h2 h1, h3⟩
theorem W_cond {x : Operand} {y z : Code} {b : Bool} (hb : evalV ρ x = .bool b) (h : W P K X c (if b then y else z) ρ σ Q) : W P K X c (.cond x y z) ρ σ Q := by
  obtain ⟨ex, ρ', σ', h1, h2⟩ := h
  exact ⟨ex, ρ', σ', .cond hb h1, h2⟩
theorem W_seq {x y : Code} (h : W P K X c x ρ σ (fun ex ρ σ => match ex with | .normal => W P K X c y ρ σ Q | e => Q e ρ σ)) : W P K X c (.seq x y) ρ σ Q := by
  obtain ⟨ex, ρ', σ', h1, h2⟩ := h
  cases ex with
  | normal =>
    obtain ⟨ex2, ρ2, σ2, h3, h4⟩ := h2
    exact ⟨ex2, ρ2, σ2, .seq h1 h3, h4⟩
  | exit k => exact ⟨_, _, _, .seqx h1 (fun e => by cases e), h2⟩
  | ret => exact ⟨_, _, _, .seqx h1 (fun e => by cases e), h2⟩
theorem W_block {id : Nat} {x : Code} (h : W P K X c x ρ σ (fun ex ρ σ => match ex with | .exit k => Q (if k = id then .normal else .exit k) ρ σ | e => Q e ρ σ)) : W P K X c (.block id x) ρ σ Q := by
  obtain ⟨ex, ρ', σ', h1, h2⟩ := h
  cases ex with
  | normal => exact ⟨_, _, _, .block h1, h2⟩
  | exit k => exact ⟨_, _, _, .block h1, h2⟩
  | ret => exact ⟨_, _, _, .block h1, h2⟩
theorem W_loop {x : Code} (h : W P K X c x ρ σ (fun ex ρ1 σ1 => match ex with
    | .normal => W P K X c (.loop x) (iterEnd c.tl σ.size ρ1 σ1).1 (iterEnd c.tl σ.size ρ1 σ1).2 Q
    | .exit k => Q (.exit k) (iterEnd c.tl σ.size ρ1 σ1).1 (iterEnd c.tl σ.size ρ1 σ1).2
    | .ret => Q .ret ρ1 σ1)) : W P K X c (.loop x) ρ σ Q := by
  obtain ⟨ex, ρ1, σ1, h1, h2⟩ := h
  cases ex with
  | normal =>
    obtain ⟨ex2, ρ2, σ2, h3, h4⟩ := h2
    exact ⟨ex2, ρ2, σ2, .loop h1 h3, h4⟩
  | exit k => exact ⟨_, _, _, .loopx h1, h2⟩
  | ret => exact ⟨_, _, _, .loopr h1, h2⟩
theorem W_mono {k : Code} {Q' : Ex → VEnv → St → Prop} (h : W P K X c k ρ σ Q') (hq : ∀ ex ρ σ, Q' ex ρ σ → Q ex ρ σ) : W P K X c k ρ σ Q := by
  obtain ⟨ex, ρ1, σ1, h1, h2⟩ := h
  exact ⟨ex, ρ1, σ1, h1, hq _ _ _ h2⟩
/-- A function is walked. -/
theorem W_call {fl f : Nat} {fn : Func} {k : Code} {args : List V} {v : V} {σ' : St} (hi : K.inn f = true) (hf : P.funcs[f]? = some fn) (hb : fn.body = some k) (hn : args.length ≤ fn.ntmps)
    (h : W P K X ⟨fn.ntmps, K.wm f, if K.quiet f then max fl σ.size else fl, K.tl f⟩ k (fun t => args.getD t .undef) σ (fun ex ρ1 σ1 => (ex = .normal ∨ ex = .ret) ∧ ∃ l, allA (resV P σ1 ρ1) fn.results.toList = some l ∧ callEnd σ.size (retV fn.results.toList l) σ1 = (v, σ'))) : Big P K X (.call fl f args σ v σ') := by
  obtain ⟨ex, ρ1, σ1, h1, h2, l, h3, h4⟩ := h
  have := Big.body hi hf hb hn h1 h2 h3
  rw [h4] at this
  exact this
end
end Go.Vw
end
section
/- Code that is made ready: types' numbers are gone. -/
namespace Go.Vw
open Go Go.RowKit Go.Abs

/-- An operand. -/
inductive O where
  | t (n : Nat)
  | c (v : V)
/-- An operation. -/
inductive CO where
  | mv (tk : Bool) (x : O)
  | pk (b x y : O)
  | al (z : List V)
  | nb (t u : TypeId)
  | bx (tk : Bool) (x : O)
  | bd (tk : Bool) (z : List V) (ps : List (Nat × Nat × O))
  | bs (w : Bool) (n s : Nat) (z : List V) (ps : List (Nat × O))
  | ld (tk : Bool) (n : Option Nat) (x : O)
  | st (tk : Bool) (n : Nat) (a x : O)
  | nc (x : O)
  | bo (op : BinOp) (q : Nat) (x y : O)
  | uo (op : UnOp) (x : O)
  | ci (k : IntKind) (x : O)
  | cs (x : O)
  | cb (x : O)
  | cc (x : O)
  | mf (f : Nat) (a b : List O)
  | sS (x : O) (lo hi : Option O)
  | sV (s : Nat) (x : O) (lo hi : Option O)
  | fa (x : O) (off : Nat)
  | fd (n : Option Nat) (x : O) (off : Nat)
  | ia (s : Nat) (x i : O)
  | iS (x i : O)
  | iA (n : Option Nat) (len s : Nat) (x i : O)
  | ex (x : O) (i : Nat)
  | le (sl : Bool) (x : O)
  | la (n : Nat)
  | ap (w : Bool) (size bytes : Nat) (s x : O)
  | mx (x y : O)
  | mn (x y : O)
  | mm
  | lu (d : TypeDesc) (z : V) (x k : O) (ok : Bool)
  | mu (d : TypeDesc) (x k y : O)
  | cl (x : O) (args : List O)
/-- An operation in its place: its guard, where it writes. -/
inductive CS where
  | s (d : Nat) (o : CO)
  | n (o : CO)
  | g (j : Nat) (w : Bool) (d : Nat) (o : CO)
inductive CC where
  | skip
  | r (l : List CS)
  /-- places that must be apart at the end -/
  | a (l : List CS) (ps : List (Nat × Nat))
  | seq (a b : CC)
  | cond (x : O) (a b : CC)
  | block (id : Nat) (a : CC)
  | loop (a : CC)
  | exit (id : Nat)
  | ret
inductive CR where
  | t (n : Nat)
  | c (a : Nat) (n : Option Nat)
structure CF where
  n : Nat
  code : CC
  res : List CR

def toO : Operand → O
  | .tmp t => .t t
  | .const v => .c (ofConstV v)
  | .global _ => .c .undef
  | .func f => .c (.func f [] [])
def evalK (ρ : VEnv) : O → V
  | .t n => ρ n
  | .c v => v
def evalKC (ρ : VEnv) (x : O) : V := (evalK ρ x).strip
def grabK (tk : Bool) (ρ : VEnv) : O → V × VEnv
  | .t n => if tk then (ρ n, updV ρ n (ρ n).strip) else ((ρ n).strip, ρ)
  | .c v => (v, ρ)
theorem evalK_toO (ρ : VEnv) (x : Operand) : evalK ρ (toO x) = evalV ρ x := by cases x <;> rfl
theorem evalKC_toO (ρ : VEnv) (x : Operand) : evalKC ρ (toO x) = evalC ρ x := by unfold evalKC evalC; rw [evalK_toO]
theorem grabK_toO (tk : Bool) (ρ : VEnv) (x : Operand) : grabK tk ρ (toO x) = grab tk ρ x := by cases x <;> rfl

/-- Does it stand in one cell, or in so many? -/
def shape (P : Program) (t : TypeId) : Option (Option Nat) := match tAgg P t with
  | some true => (tSize P t).map some
  | some false => some none
  | none => none
def asValK (n : Option Nat) (vs : List V) (off : Nat) : Option V := match n with
  | none => vs[off]?
  | some n => if off + n ≤ vs.length then some (.agg ((vs.drop off).take n)) else none
theorem asVal_shape {P : Program} {t : TypeId} {n : Option Nat} (h : shape P t = some n) (vs : List V) (off : Nat) : asVal P t vs off = asValK n vs off := by
  unfold shape at h
  split at h
  · rename_i ha
    simp only [Option.map_eq_some_iff] at h
    obtain ⟨m, hm, rfl⟩ := h
    exact asVal_agg ha hm vs off
  · rename_i ha
    simp only [Option.some.injEq] at h
    subst h
    exact asVal_one ha vs off
  · cases h

/-! ### Making ready -/
def mapO {α β : Type} (f : α → Option β) : List α → Option (List β)
  | [] => some []
  | x :: r => match f x, mapO f r with
    | some y, some l => some (y :: l)
    | _, _ => none
def eqKind (P : Program) (t : TypeId) : Nat := match P.underlying t with
  | some (.pointer _) => 1
  | some (.func _ _ _) => 2
  | some .bool => 3
  | _ => if pairInts P t = true then 4 else 0
def ready (P : Program) (wm : TypeId → Bool) (tk : Bool) (o : Op) : Option CO :=
  match o with
  | .move x | .assign x => some (.mv tk (toO x))
  | .pick b x y => some (.pk (toO b) (toO x) (toO y))
  | .alloc t => if isBld P t = true then (match tZeroV P t, bldElem P t with
      | some [.nilp, .vec true []], some u => some (.nb t u)
      | _, _ => none)
    else match tZeroV P t with
    | some z => if z.all V.isCell = true then some (.al z) else none
    | none => none
  | .box _ x => some (.bx tk (toO x))
  | .build t parts => match tZeroV P t, P.underlying t with
    | some z, some (.struct fs) => match allA (fun f : Field => (tSize P f.type).map fun s => (f.offset, s)) fs.toList with
      | some ps => (mapO (fun p => (ps[p.1]?).map fun q => (q.1, q.2, toO p.2)) parts.toList).map fun l => .bd tk z l
      | none => none
    | some z, some (.array _ e) => match tSize P e with
      | some s => some (.bd tk z (parts.toList.map fun p => (p.1 * s, s, toO p.2)))
      | none => none
    | _, _ => none
  | .buildSlice t len parts => match tElem P t with
    | some e => match tSize P e, tZeroV P e with
      | some s, some z => if len * s ≤ 16777216 ∧ 0 < s ∧ z.length = s then some (.bs (wm e) len s (z.map V.strip1) (parts.toList.map fun p => (p.1, toO p.2))) else none
      | _, _ => none
    | none => none
  | .load t x => (shape P t).map fun n => .ld tk n (toO x)
  | .store t a x => (tSize P t).map fun n => .st tk n (toO a) (toO x)
  | .nilCheck x => some (.nc (toO x))
  | .binOp op t x y _ => some (.bo op (eqKind P t) (toO x) (toO y))
  | .unOp op _ x => some (.uo op (toO x))
  | .convert s d x => match P.underlying s, P.underlying d with
    | some .string, some .string => some (.cs (toO x))
    | some .string, some (.slice e) => match P.underlying e with
      | some (.int .u8) => if tSize P e = some 1 then some (.cb (toO x)) else none
      | _ => none
    | some (.slice e), some .string => match P.underlying e with
      | some (.int .u8) => some (.cc (toO x))
      | _ => none
    | some (.int _), some (.int k) => some (.ci k (toO x))
    | _, _ => none
  | .makeFunc (.func f) a b => some (.mf f (a.toList.map toO) (b.toList.map toO))
  | .slice t x lo hi none => match P.underlying t with
    | some .string => some (.sS (toO x) (lo.map toO) (hi.map toO))
    | some (.slice e) => (tSize P e).map fun s => .sV s (toO x) (lo.map toO) (hi.map toO)
    | _ => none
  | .fieldAddr s x i => match tField P s i with
    | some (k, ft) => match tSize P ft with
      | some (_ + 1) => some (.fa (toO x) k)
      | _ => none
    | none => none
  | .field t x i => match tField P t i with
    | some (k, ft) => (shape P ft).map fun n => .fd n (toO x) k
    | none => none
  | .indexAddr t x i => match P.underlying t with
    | some (.slice e) => (tSize P e).map fun s => .ia s (toO x) (toO i)
    | _ => none
  | .index t x i => match P.underlying t with
    | some .string => some (.iS (toO x) (toO i))
    | some (.array n e) => match tSize P e, shape P e with
      | some s, some q => some (.iA q n s (toO x) (toO i))
      | _, _ => none
    | _ => none
  | .extract x i => some (.ex (toO x) i)
  | .call q => match q.callee with
    | .builtin .len => match q.argTypes[0]?, q.args.toList with
      | some t, [x] => match P.underlying t with
        | some .string => some (.le false (toO x))
        | some (.slice _) => some (.le true (toO x))
        | some (.array n _) => some (.la n)
        | _ => none
      | _, _ => none
    | .builtin .append => match q.argTypes[0]?, q.argTypes[1]?, q.args.toList with
      | some t, some u, [s, x] => match tElem P t, P.underlying u with
        | some e, some (.slice _) => match tSize P e, tBytes P e, tZero P e with
          | some size, some bytes, some z => if 0 < size ∧ z.length = size then some (.ap (wm e) size bytes (toO s) (toO x)) else none
          | _, _, _ => none
        | some e, some .string => match tSize P e, tBytes P e, tZero P e with
          | some size, some bytes, some z => if 0 < size ∧ z.length = size then some (.ap (wm e) size bytes (toO s) (toO x)) else none
          | _, _, _ => none
        | _, _ => none
      | _, _, _ => none
    | .builtin .max => match q.args.toList with
      | [x, y] => some (.mx (toO x) (toO y))
      | _ => none
    | .builtin .min => match q.args.toList with
      | [x, y] => some (.mn (toO x) (toO y))
      | _ => none
    | .value f => some (.cl (toO f) (q.args.toList.map toO))
    | _ => none
  | .makeMap _ none => some .mm
  | .lookup t x k ok => match P.underlying t with
    | some (.map kt et) => match P.underlying kt, zeroVV P et with
      | some d, some z => some (.lu d z.strip (toO x) (toO k) ok)
      | _, _ => none
    | _ => none
  | .mapUpdate t x k v => match P.underlying t with
    | some (.map kt _) => match P.underlying kt with
      | some d => some (.mu d (toO x) (toO k) (toO v))
      | _ => none
    | _ => none
  | _ => none
def readyS (P : Program) (wm : TypeId → Bool) (ops : List Oper) : Nat → List Oper → Option (List CS)
  | _, [] => some []
  | i, o :: r => match ready P wm (takes ops i o) o.op, readyS P wm ops (i + 1) r with
    | some co, some l => match o.guard, o.dst with
      | none, some d => some (.s d co :: l)
      | none, none => some (.n co :: l)
      | some (j, want), some d => match (ops[j]?).bind (·.dst) with
        | some k => some (.g k want d co :: l)
        | none => none
      | some _, none => none
    | _, _ => none
def readyC (P : Program) (wm : TypeId → Bool) (quiet : Nat → Bool) (n : Nat) : Code → Option CC
  | .skip => some .skip
  | .region _ ops free => if inFrame n ops.toList = true ∧ (free = true → loadsOK P wm quiet ops.toList = true ∧ staticOK P ops.toList n = true) then (readyS P wm ops.toList 0 ops.toList).map (fun l => if free = true ∧ seps P ops.toList ≠ [] then .a l (seps P ops.toList) else .r l) else none
  | .seq a b => match readyC P wm quiet n a, readyC P wm quiet n b with
    | some x, some y => some (.seq x y)
    | _, _ => none
  | .cond x a b => match readyC P wm quiet n a, readyC P wm quiet n b with
    | some y, some z => some (.cond (toO x) y z)
    | _, _ => none
  | .block id a => (readyC P wm quiet n a).map (.block id)
  | .loop a => (readyC P wm quiet n a).map .loop
  | .exit id => some (.exit id)
  | .ret => some .ret
  | _ => none
def readyR (P : Program) : ResultVar → Option CR
  | .tmp t => some (.t t)
  | .cell a t => (shape P t).map fun n => .c a n
def readyF (P : Program) (K : Knobs) (f : Nat) : Option CF :=
  match P.funcs[f]? with
  | some fn => match fn.body with
    | some c => match readyC P (K.wm f) K.quiet fn.ntmps c, mapO (readyR P) fn.results.toList with
      | some k, some r => some ⟨fn.ntmps, k, r⟩
      | _, _ => none
    | none => none
  | none => none

/-! ### What it does -/
def eqNilK (q : Nat) (x y : V) : Option Bool :=
  match q, x, y with
  | 1, .nilp, .nilp => some true
  | 1, .nilp, .ptr .. => some false
  | 1, .ptr .., .nilp => some false
  | 2, .nilf, .nilf => some true
  | 2, .nilf, .func .. => some false
  | 2, .func .., .nilf => some false
  | 3, .bool a, .bool b => some (a == b)
  | _, _, _ => none
def binK (op : BinOp) (q : Nat) (x y : V) : Option V :=
  match x, y with
  | .int k a, .int k' b => (pureOf (binOp op 0 (.int k a) (.int k' b))).map ofValV
  | .str a, .str b => (strOp op a b).map ofAV
  | .agg [.int k a, .int l c], .agg [.int k' b, .int l' d] => if k = k' ∧ l = l' ∧ q = 4 then eqResV op (some (a == b && c == d)) else none
  | x, y => eqResV op (eqNilK q x y)
def grabsK (tk : Bool) (ρ : VEnv) : List (Nat × Nat × O) → List (Nat × Nat × V) × VEnv
  | [] => ([], ρ)
  | (i, s, x) :: r => ((i, s, (grabK tk ρ x).1) :: (grabsK tk (grabK tk ρ x).2 r).1, (grabsK tk (grabK tk ρ x).2 r).2)
def fillK (cells : List V) : List (Nat × Nat × V) → Option (List V)
  | [] => some cells
  | (off, size, v) :: rest => if v.isVal = true ∧ v.cells.length = size ∧ off + size ≤ cells.length then fillK (splice cells off v.cells) rest else none
def appendK (w : Bool) (fl : Nat) (σ : St) (size bytes : Nat) (s x : V) : Option (V × St) :=
  match srcV σ size x with
  | none => none
  | some new =>
    match s with
    | .vec own els =>
      if new.isEmpty = true then some (s, σ)
      else if fits bytes (els.length + new.length) ∧ own = true ∧ els.all (fun e => decide (e.length = size)) = true then
        if w = true then
          if els.isEmpty = true then some (.sl σ.size 0 new.length none size, σ.push (.cells (new.flatten.map V.strip1))) else none
        else some (.vec true (els ++ new), σ)
      else none
    | .sl o off len cap esz =>
      if new.isEmpty = true then some (s, σ)
      else if fits bytes (len + new.length) ∧ esz = size ∧ fl ≤ o ∧ w = true then
        match σ.get o with
        | some (.cells vs) => match cutC vs off (len * esz) with
          | some old => match cap with
            | some c => if c < len + new.length then some (.sl σ.size 0 (len + new.length) none size, σ.push (.cells ((old ++ new.flatten).map V.strip1))) else none
            | none => some (.sl σ.size 0 (len + new.length) none size, (σ.put o .dead).push (.cells ((old ++ new.flatten).map V.strip1)))
          | none => none
        | _ => none
      else none
    | _ => none
def lookupK (σ : St) (d : TypeDesc) (z x k : V) (ok : Bool) : Option V :=
  match entriesV σ x with
  | some es =>
    if keyOKV d k = true ∧ es.all (fun e => keyOKV d e.1) = true then
      match findV k es 0 with
      | some (_, v) => some (if ok then .tuple [v, .bool true] else v)
      | none => some (if ok then .tuple [z, .bool false] else z)
    else none
  | none => none
def updateK (fl : Nat) (σ : St) (d : TypeDesc) (x k v : V) : Option St :=
  match x with
  | .map o => match σ.get o with
    | some (.amap es) =>
      if keyOKV d k = true ∧ es.all (fun e => keyOKV d e.1) = true ∧ fl ≤ o ∧ v.low (o + 1) = true then
        match findV k es 0 with
        | some (i, _) => some (σ.put o (.amap (es.set i (k, v))))
        | none => some (σ.put o (.amap (es ++ [(k, v)])))
      else none
    | _ => none
  | _ => none
/-- A store. -/
def St.stow (σ : St) (o : Nat) (x : VObj) (v : V) : St := ⟨putO σ.objs o x, v.pins o σ.size σ.pin⟩
def one (ρ : VEnv) (σ : St) (v : V) : V × VEnv × St := (v, ρ, σ)
def kOp (fl : Nat) (ρ : VEnv) (σ : St) : CO → Option (V × VEnv × St)
  | .mv tk x => some ((grabK tk ρ x).1, (grabK tk ρ x).2, σ)
  | .pk b x y => match evalK ρ b with
    | .bool t => some (if t then evalKC ρ x else evalKC ρ y, ρ, σ)
    | _ => none
  | .al z => some (.ptr σ.size 0, ρ, σ.push (.cells z))
  | .nb t u => some (.ptr σ.size 0, ρ, σ.push (.bld t u []))
  | .bx tk x => if (grabK tk ρ x).1.isVal = true then some (.ptr σ.size 0, (grabK tk ρ x).2, σ.push (.cells (grabK tk ρ x).1.cells)) else none
  | .bd tk z ps => (fillK z (grabsK tk ρ ps).1).map fun cs => (.agg cs, (grabsK tk ρ ps).2, σ)
  | .bs w n s z ps => match fillK ((List.replicate n z).flatten) (ps.map fun p => (p.1 * s, s, evalKC ρ p.2)) with
    | some cs => if cs.all V.isCell = true then (if w = true then some (.sl σ.size 0 n (some n) s, ρ, σ.push (.cells (cs.map V.strip1))) else some (.vec true (chunk s n cs), ρ, σ)) else none
    | none => none
  | .ld tk n x => match evalK ρ x with
    | .ptr o off => match σ.get o with
      | some (.cells vs) => match asValK n vs off with
        | some v => if tk then (if fl ≤ o then some (v, ρ, σ.put o (.cells (stripAt vs off v.cells.length))) else none) else some (v.strip, ρ, σ)
        | none => none
      | _ => none
    | .ro vs off => (asValK n vs off).map fun v => (v.strip, ρ, σ)
    | _ => none
  | .st tk n a x => match evalK ρ a with
    | .ptr o off => match σ.get o with
      | some (.cells vs) =>
        if (grabK tk ρ x).1.isVal = true ∧ n = (grabK tk ρ x).1.cells.length ∧ off + (grabK tk ρ x).1.cells.length ≤ vs.length ∧ fl ≤ o then
          some (.undef, (grabK tk ρ x).2, σ.stow o (.cells (splice vs off (grabK tk ρ x).1.cells)) (grabK tk ρ x).1)
        else none
      | _ => none
    | _ => none
  | .nc x => match evalKC ρ x with
    | .ptr o off => some (.ptr o off, ρ, σ)
    | .ro vs off => some (.ro vs off, ρ, σ)
    | .func f a b => some (.func f a b, ρ, σ)
    | _ => none
  | .bo op q x y => (binK op q (evalK ρ x) (evalK ρ y)).map (one ρ σ)
  | .uo op x => (unV op (evalK ρ x)).map (one ρ σ)
  | .ci k x => match evalK ρ x with
    | .int _ n => ((pureOf (Conv.intToInt k n)).map ofValV).map (one ρ σ)
    | _ => none
  | .cs x => match evalK ρ x with
    | .str s => some (.str s, ρ, σ)
    | _ => none
  | .cb x => match evalK ρ x with
    | .str s => some (.vec (!s.isEmpty) (s.map fun c => [byteCellV c]), ρ, σ)
    | _ => none
  | .cc x => match evalK ρ x with
    | .vec _ els => ((unbytesV els).map V.str).map (one ρ σ)
    | _ => none
  | .mf f a b => some (.func f (a.map (evalKC ρ)) (b.map (evalKC ρ)), ρ, σ)
  | .sS x lo hi => match evalK ρ x with
    | .str s => (cutStrV s (lo.map (evalK ρ)) (hi.map (evalK ρ))).map (one ρ σ)
    | _ => none
  | .sV s x lo hi => match evalK ρ x with
    | .vec _ els => if els.all (fun x => decide (x.length = s)) = true then (cutV els (lo.map (evalK ρ)) (hi.map (evalK ρ))).map (one ρ σ) else none
    | .sl o off len cap esz => if s = esz then (cutSlV o off len cap esz (lo.map (evalK ρ)) (hi.map (evalK ρ))).map (one ρ σ) else none
    | _ => none
  | .fa x k => match evalK ρ x with
    | .ptr o off => some (.ptr o (off + k), ρ, σ)
    | .ro vs off => some (.ro vs (off + k), ρ, σ)
    | _ => none
  | .fd n x k => match evalKC ρ x with
    | .agg vs => (asValK n vs k).map fun v => (v.strip, ρ, σ)
    | _ => none
  | .ia s x i => match evalK ρ x, natOfV (evalK ρ i) with
    | .vec _ els, some k => match els[k]? with
      | some el => if s = el.length then some (.ro el 0, ρ, σ) else none
      | none => none
    | .sl o off len _ esz, some k => if k < len ∧ s = esz then some (.ptr o (off + k * esz), ρ, σ) else none
    | _, _ => none
  | .iS x i => match evalK ρ x, natOfV (evalK ρ i) with
    | .str s, some k => match s[k]? with | some b => some (.int .u8 b.toNat, ρ, σ) | none => none
    | _, _ => none
  | .iA n len s x i => match evalKC ρ x, natOfV (evalK ρ i) with
    | .agg vs, some k => if k < len then (asValK n vs (k * s)).map fun v => (v.strip, ρ, σ) else none
    | _, _ => none
  | .ex x i => match evalK ρ x with
    | .tuple vs => match vs[i]? with | some v => some (v.strip, ρ, σ) | none => none
    | _ => none
  | .le sl x => match sl, evalK ρ x with
    | false, .str s => some (.int .i64 s.length, ρ, σ)
    | true, .vec _ els => some (.int .i64 els.length, ρ, σ)
    | true, .sl _ _ len _ _ => some (.int .i64 len, ρ, σ)
    | _, _ => none
  | .la n => some (.int .i64 n, ρ, σ)
  | .ap w size bytes s x => (appendK w fl σ size bytes (grabK true ρ s).1 (evalK (grabK true ρ s).2 x)).map fun r => (r.1, (grabK true ρ s).2, r.2)
  | .mx x y => (minmaxV true (evalK ρ x) (evalK ρ y)).map (one ρ σ)
  | .mn x y => (minmaxV false (evalK ρ x) (evalK ρ y)).map (one ρ σ)
  | .mm => some (.map σ.size, ρ, σ.push (.amap []))
  | .lu d z x k ok => (lookupK σ d z (evalK ρ x) (evalK ρ k) ok).map (one ρ σ)
  | .mu d x k y => (updateK fl σ d (evalK ρ x) (evalK ρ k) (evalKC ρ y)).map (one ρ · .undef)
  | .cl _ _ => none
end Go.Vw
end
section
/- What is made ready stands for the code. -/
namespace Go.Vw
open Go Go.RowKit Go.Abs

section
variable {P : Program} {K : Knobs} {X : ExtV}

theorem eqNilK_none (x y : V) : eqNilK 4 x y = none ∧ eqNilK 0 x y = none := by
  constructor <;> (unfold eqNilK; split <;> first | rfl | contradiction)
theorem eqNil_kind (t : TypeId) (x y : V) : eqNilK (eqKind P t) x y = eqNilV P t x y := by
  have hn := eqNilK_none x y
  have h0 : eqNilK (if pairInts P t = true then 4 else 0) x y = none := by
    split
    · exact hn.1
    · exact hn.2
  unfold eqNilV eqKind
  cases hu : P.underlying t with
  | none => exact h0
  | some d =>
    cases d <;> first
      | exact h0
      | (unfold eqNilK; cases x <;> cases y <;> rfl)
theorem kind_pair (t : TypeId) : eqKind P t = 4 ↔ pairInts P t = true := by
  unfold eqKind
  split
  · rename_i hu; simp [pairInts, hu]
  · rename_i hu; simp [pairInts, hu]
  · rename_i hu; simp [pairInts, hu]
  · split <;> simp_all
theorem bin_kind (op : BinOp) (t : TypeId) (x y : V) : binK op (eqKind P t) x y = binV P op t x y := by
  unfold binK binV
  simp only [eqNil_kind, kind_pair]
  split
  · cases op <;> rfl
  · rfl
  · rfl
  · rename_i n1 n2 n3
    split
    · exact (n1 _ _ _ _ rfl rfl).elim
    · exact (n2 _ _ rfl rfl).elim
    · exact (n3 _ _ _ _ _ _ _ _ rfl rfl).elim
    · rfl
theorem opt_toO (ρ : VEnv) (o : Option Operand) : (o.map toO).map (evalK ρ) = o.map (evalV ρ) := by
  cases o with
  | none => rfl
  | some x => simp [evalK_toO]
theorem map_toO (ρ : VEnv) (l : List Operand) : (l.map toO).map (evalKC ρ) = l.map (evalC ρ) := by
  rw [List.map_map]; congr 1; funext x; exact evalKC_toO ρ x
theorem mapO_get {α β : Type} (f : α → Option β) : ∀ (l : List α) (r : List β), mapO f l = some r → r.length = l.length ∧ ∀ (i : Nat) (x : α), l[i]? = some x → ∃ y, f x = some y ∧ r[i]? = some y
  | [], r, h => by simp only [mapO, Option.some.injEq] at h; subst h; simp
  | x :: l, r, h => by
    simp only [mapO] at h
    split at h
    · rename_i y l' hy hl
      simp only [Option.some.injEq] at h
      subst h
      obtain ⟨h1, h2⟩ := mapO_get f l l' hl
      refine ⟨by simp [h1], fun i z hi => ?_⟩
      cases i with
      | zero => simp only [List.getElem?_cons_zero, Option.some.injEq] at hi; subst hi; exact ⟨y, hy, rfl⟩
      | succ i => simpa using h2 i z (by simpa using hi)
    · cases h

/-- Literals' parts. -/
theorem grabs_fill {tk : Bool} (place : Nat → Option (Nat × Nat)) : ∀ (l : List (Nat × Operand)) (ps : List (Nat × Nat × O)) (ρ : VEnv) (z cs : List V), mapO (fun p => (place p.1).map fun q => (q.1, q.2, toO p.2)) l = some ps → fillK z (grabsK tk ρ ps).1 = some cs →
    fillV place z (grabs tk ρ l).1 = some cs ∧ (grabsK tk ρ ps).2 = (grabs tk ρ l).2
  | [], ps, ρ, z, cs, h, hf => by
    simp only [mapO, Option.some.injEq] at h
    subst h
    exact ⟨hf, rfl⟩
  | (i, x) :: l, ps, ρ, z, cs, h, hf => by
    simp only [mapO] at h
    split at h
    · rename_i y l' hy hl
      simp only [Option.some.injEq] at h
      subst h
      simp only [Option.map_eq_some_iff] at hy
      obtain ⟨⟨off, size⟩, hq, rfl⟩ := hy
      simp only [grabsK, fillK, grabK_toO] at hf
      split at hf
      · rename_i hc
        obtain ⟨k1, k2⟩ := grabs_fill place l l' (grab tk ρ x).2 _ cs hl hf
        refine ⟨?_, ?_⟩
        · simp only [grabs, fillV, hq]
          rw [if_pos hc]
          exact k1
        · simp only [grabsK, grabs, grabK_toO]
          exact k2
      · cases hf
    · cases h
theorem parts_fill (ρ : VEnv) (place : Nat → Nat × Nat) : ∀ (l : List (Nat × Operand)) (z cs : List V), fillK z (l.map fun p => ((place p.1).1, (place p.1).2, evalC ρ p.2)) = some cs → fillV (fun i => some (place i)) z (l.map fun p => (p.1, evalC ρ p.2)) = some cs
  | [], z, cs, h => h
  | (i, x) :: l, z, cs, h => by
    simp only [List.map_cons, fillK] at h
    simp only [List.map_cons, fillV]
    split at h
    · rename_i hc
      rw [if_pos hc]
      exact parts_fill ρ place l _ cs h
    · cases h

theorem append_ready {wm : TypeId → Bool} {fl : Nat} {σ : St} {e : TypeId} {size bytes : Nat} {z : List AV} (h1 : tSize P e = some size) (h2 : tBytes P e = some bytes) (h3 : tZero P e = some z) (h4 : 0 < size ∧ z.length = size) (s x : V) : appendV P wm fl σ e s x = appendK (wm e) fl σ size bytes s x := by
  unfold appendV appendK
  simp only [h1, h2, h3]
  rw [if_pos h4]
  rfl

theorem ready_sound {wm : TypeId → Bool} {fl : Nat} {tk : Bool} {o : Op} {co : CO} (h : ready P wm tk o = some co) {ρ : VEnv} {σ : St} {r : V × VEnv × St} (hk : kOp fl ρ σ co = some r) : vOp ⟨P, wm, fl⟩ tk ρ o σ = some r := by
  cases o with
  | move x =>
    simp only [ready, Option.some.injEq] at h
    subst h
    simpa only [kOp, grabK_toO, vOp] using hk
  | assign x =>
    simp only [ready, Option.some.injEq] at h
    subst h
    simpa only [kOp, grabK_toO, vOp] using hk
  | pick b x y =>
    simp only [ready, Option.some.injEq] at h
    subst h
    simp only [kOp, evalK_toO, evalKC_toO] at hk
    simp only [vOp]
    split at hk
    · rename_i t ht; simp only [ht]; exact hk
    · cases hk
  | alloc t =>
    simp only [ready] at h
    split at h
    · rename_i hB
      split at h
      · rename_i u hz hu
        simp only [Option.some.injEq] at h
        subst h
        simp only [vOp, hz, hu]
        rw [if_pos hB]
        exact hk
      · cases h
    · rename_i hB
      split at h
      · rename_i z hz
        split at h
        · rename_i hc
          simp only [Option.some.injEq] at h
          subst h
          simp only [vOp, hz]
          rw [if_neg hB, if_pos hc]
          exact hk
        · cases h
      · cases h
  | box t x =>
    simp only [ready, Option.some.injEq] at h
    subst h
    simpa only [kOp, grabK_toO, vOp] using hk
  | build t parts =>
    simp only [ready] at h
    split at h
    · rename_i z fs hz hu
      split at h
      · rename_i ps hps
        simp only [Option.map_eq_some_iff] at h
        obtain ⟨l, hl, rfl⟩ := h
        simp only [kOp, Option.map_eq_some_iff] at hk
        obtain ⟨cs, hcs, rfl⟩ := hk
        obtain ⟨k1, k2⟩ := grabs_fill (fun i => ps[i]?) parts.toList l ρ z cs hl hcs
        simp only [vOp, hz, hu, hps, k1, Option.map_some, k2]
      · cases h
    · rename_i z n e hz hu
      split at h
      · rename_i s hs
        simp only [Option.some.injEq] at h
        subst h
        simp only [kOp, Option.map_eq_some_iff] at hk
        obtain ⟨cs, hcs, rfl⟩ := hk
        have hl : mapO (fun p : Nat × Operand => (some (p.1 * s, s) : Option (Nat × Nat)).map fun q => (q.1, q.2, toO p.2)) parts.toList = some (parts.toList.map fun p => (p.1 * s, s, toO p.2)) := by
          induction parts.toList with
          | nil => rfl
          | cons a r ih =>
            simp only [mapO, Option.map_some, List.map_cons] at ih ⊢
            rw [ih]
        obtain ⟨k1, k2⟩ := grabs_fill (fun i => some (i * s, s)) parts.toList _ ρ z cs hl hcs
        simp only [vOp, hz, hu, hs, k1, Option.map_some, k2]
      · cases h
    · cases h
  | buildSlice t len parts =>
    simp only [ready] at h
    split at h
    · rename_i e he
      split at h
      · rename_i s z hs hz
        split at h
        · rename_i hc
          simp only [Option.some.injEq] at h
          subst h
          simp only [kOp] at hk
          simp only [vOp, he, hs, hz]
          rw [if_pos hc]
          split at hk
          · rename_i cs hcs
            have := parts_fill ρ (fun i => (i * s, s)) parts.toList _ cs (by
              rw [List.map_map] at hcs
              have hfun : ((fun p : Nat × O => (p.1 * s, s, evalKC ρ p.2)) ∘ fun p : Nat × Operand => (p.1, toO p.2)) = fun p => (p.1 * s, s, evalC ρ p.2) := by
                funext p
                simp only [Function.comp, evalKC_toO]
              rw [hfun] at hcs
              exact hcs)
            rw [this]
            exact hk
          · cases hk
        · cases h
      · cases h
    · cases h
  | load t x =>
    simp only [ready, Option.map_eq_some_iff] at h
    obtain ⟨n, hn, rfl⟩ := h
    simp only [kOp, evalK_toO] at hk
    simp only [vOp, asVal_shape hn]
    exact hk
  | store t a x =>
    simp only [ready, Option.map_eq_some_iff] at h
    obtain ⟨n, hn, rfl⟩ := h
    simp only [kOp, evalK_toO, grabK_toO] at hk
    simp only [vOp, hn, Option.some.injEq]
    exact hk
  | nilCheck x =>
    simp only [ready, Option.some.injEq] at h
    subst h
    simp only [kOp, evalKC_toO] at hk
    simp only [vOp]
    split at hk
    · rename_i hx; simp only [hx]; exact hk
    · rename_i hx; simp only [hx]; exact hk
    · rename_i hx; simp only [hx]; exact hk
    · cases hk
  | binOp op t x y ty =>
    simp only [ready, Option.some.injEq] at h
    subst h
    simp only [kOp, evalK_toO, bin_kind] at hk
    simp only [vOp]
    exact hk
  | unOp op t x =>
    simp only [ready, Option.some.injEq] at h
    subst h
    simp only [kOp, evalK_toO] at hk
    simp only [vOp]
    exact hk
  | convert s d x =>
    simp only [ready] at h
    simp only [vOp]
    split at h
    · rename_i hs hd
      simp only [Option.some.injEq] at h
      subst h
      simp only [kOp, evalK_toO] at hk
      split at hk
      · rename_i st hx
        simp only [Option.some.injEq] at hk
        simp only [convV, hs, hd, hx, Option.map_some, hk]
      · cases hk
    · rename_i e hs hd
      split at h
      · rename_i he
        split at h
        · rename_i hsz
          simp only [Option.some.injEq] at h
          subst h
          simp only [kOp, evalK_toO] at hk
          split at hk
          · rename_i st hx
            simp only [Option.some.injEq] at hk
            simp only [convV, hs, hd, hx, he, hsz, if_true, Option.map_some, hk]
          · cases hk
        · cases h
      · cases h
    · rename_i e hs hd
      split at h
      · rename_i he
        simp only [Option.some.injEq] at h
        subst h
        simp only [kOp, evalK_toO] at hk
        split at hk
        · rename_i own els hx
          simp only [convV, hs, hd, hx, he]
          exact hk
        · cases hk
      · cases h
    · rename_i k1 k hs hd
      simp only [Option.some.injEq] at h
      subst h
      simp only [kOp, evalK_toO] at hk
      split at hk
      · rename_i k' n hx
        simp only [convV, hs, hd, hx]
        exact hk
      · cases hk
    · cases h
  | makeFunc fn a b =>
    cases fn with
    | func f =>
      simp only [ready, Option.some.injEq] at h
      subst h
      simpa only [kOp, map_toO, vOp] using hk
    | _ => simp [ready] at h
  | slice t x lo hi mx =>
    cases mx with
    | some _ => simp [ready] at h
    | none =>
      simp only [ready] at h
      simp only [vOp]
      split at h
      · rename_i hu
        simp only [Option.some.injEq] at h
        subst h
        simp only [kOp, evalK_toO, opt_toO] at hk
        split at hk
        · rename_i s hx
          simp only [hu, hx]
          exact hk
        · cases hk
      · rename_i e hu
        simp only [Option.map_eq_some_iff] at h
        obtain ⟨s, hs, rfl⟩ := h
        simp only [kOp, evalK_toO, opt_toO] at hk
        split at hk
        · rename_i own els hx
          simp only [hu, hx, hs]
          exact hk
        · rename_i o off len cap esz hx
          simp only [hu, hx, hs, Option.some.injEq]
          exact hk
        · cases hk
      · cases h
  | fieldAddr s x i =>
    simp only [ready] at h
    split at h
    · rename_i k ft hf
      split at h
      · rename_i n hs
        simp only [Option.some.injEq] at h
        subst h
        simp only [kOp, evalK_toO] at hk
        simp only [vOp]
        split at hk
        · rename_i o off hx
          simp only [hx, hf, hs]
          exact hk
        · rename_i vs off hx
          simp only [hx, hf, hs]
          exact hk
        · cases hk
      · cases h
    · cases h
  | field t x i =>
    simp only [ready] at h
    split at h
    · rename_i k ft hf
      simp only [Option.map_eq_some_iff] at h
      obtain ⟨n, hn, rfl⟩ := h
      simp only [kOp, evalKC_toO] at hk
      simp only [vOp]
      split at hk
      · rename_i vs hx
        simp only [hx, hf, asVal_shape hn]
        exact hk
      · cases hk
    · cases h
  | indexAddr t x i =>
    simp only [ready] at h
    split at h
    · rename_i e hu
      simp only [Option.map_eq_some_iff] at h
      obtain ⟨s, hs, rfl⟩ := h
      simp only [kOp, evalK_toO] at hk
      simp only [vOp]
      split at hk
      · rename_i own els k hx hi
        simp only [hu, hx, hi]
        split at hk
        · rename_i el hel
          simp only [hs, Option.some.injEq, hel]
          exact hk
        · cases hk
      · rename_i o off len cap esz k hx hi
        simp only [hu, hx, hi, hs, Option.some.injEq]
        exact hk
      · cases hk
    · cases h
  | index t x i =>
    simp only [ready] at h
    split at h
    · rename_i hu
      simp only [Option.some.injEq] at h
      subst h
      simp only [kOp, evalK_toO] at hk
      simp only [vOp]
      split at hk
      · rename_i s k hx hi
        have hx' : evalC ρ x = .str s := by unfold evalC; rw [hx]; rfl
        simp only [hu, hx', hi]
        exact hk
      · cases hk
    · rename_i n e hu
      split at h
      · rename_i s q hs hq
        simp only [Option.some.injEq] at h
        subst h
        simp only [kOp, evalK_toO, evalKC_toO] at hk
        simp only [vOp]
        split at hk
        · rename_i vs k hx hi
          simp only [hu, hx, hi, hs, asVal_shape hq]
          exact hk
        · cases hk
      · cases h
    · cases h
  | extract x i =>
    simp only [ready, Option.some.injEq] at h
    subst h
    simp only [kOp, evalK_toO] at hk
    simp only [vOp]
    split at hk
    · rename_i vs hx
      simp only [hx]
      split at hk
      · rename_i w hw; simp only [hw]; exact hk
      · cases hk
    · cases hk
  | call q =>
    obtain ⟨callee, args, ts⟩ := q
    cases callee with
    | builtin b =>
      cases b with
      | len =>
        simp only [ready] at h
        split at h
        · rename_i t x ht hargs
          simp only [vOp, ht, hargs]
          split at h
          · rename_i hu
            simp only [Option.some.injEq] at h
            subst h
            simp only [kOp, evalK_toO] at hk
            cases hx : evalV ρ x <;> simp only [hx] at hk <;> first
              | (cases hk; done)
              | (simp only [Option.some.injEq] at hk
                 simp only [lenV, hu, hx, Option.map_some, hk])
          · rename_i e hu
            simp only [Option.some.injEq] at h
            subst h
            simp only [kOp, evalK_toO] at hk
            cases hx : evalV ρ x <;> simp only [hx] at hk <;> first
              | (cases hk; done)
              | (simp only [Option.some.injEq] at hk
                 simp only [lenV, hu, hx, Option.map_some, hk])
          · rename_i n e hu
            simp only [Option.some.injEq] at h
            subst h
            simp only [kOp, Option.some.injEq] at hk
            simp only [lenV, hu, Option.map_some, hk]
          · cases h
        · cases h
      | append =>
        simp only [ready] at h
        split at h
        · rename_i t u s x ht hu hargs
          simp only [vOp, ht, hu, hargs]
          split at h
          · rename_i e q he hue
            split at h
            · rename_i size bytes z h1 h2 h3
              split at h
              · rename_i h4
                simp only [Option.some.injEq] at h
                subst h
                simp only [kOp, grabK_toO, evalK_toO] at hk
                simp only [he, hue, append_ready h1 h2 h3 h4]
                exact hk
              · cases h
            · cases h
          · rename_i e he hue
            split at h
            · rename_i size bytes z h1 h2 h3
              split at h
              · rename_i h4
                simp only [Option.some.injEq] at h
                subst h
                simp only [kOp, grabK_toO, evalK_toO] at hk
                simp only [he, hue, append_ready h1 h2 h3 h4]
                exact hk
              · cases h
            · cases h
          · cases h
        · cases h
      | max =>
        simp only [ready] at h
        split at h
        · rename_i x y hargs
          simp only [Option.some.injEq] at h
          subst h
          simp only [kOp, evalK_toO] at hk
          simp only [vOp, hargs, List.map_cons, List.map_nil]
          exact hk
        · cases h
      | min =>
        simp only [ready] at h
        split at h
        · rename_i x y hargs
          simp only [Option.some.injEq] at h
          subst h
          simp only [kOp, evalK_toO] at hk
          simp only [vOp, hargs, List.map_cons, List.map_nil]
          exact hk
        · cases h
      | _ => simp [ready] at h
    | value x =>
      simp only [ready, Option.some.injEq] at h
      subst h
      simp [kOp] at hk
    | _ => simp [ready] at h
  | makeMap t n =>
    cases n with
    | some _ => simp [ready] at h
    | none =>
      simp only [ready, Option.some.injEq] at h
      subst h
      simpa only [kOp, vOp] using hk
  | lookup t x k ok =>
    simp only [ready] at h
    split at h
    · rename_i kt et hu
      split at h
      · rename_i d z hd hz
        simp only [Option.some.injEq] at h
        subst h
        simp only [kOp, evalK_toO, Option.map_eq_some_iff] at hk
        obtain ⟨v, hv, rfl⟩ := hk
        unfold lookupK at hv
        split at hv
        · rename_i es hes
          simp only [vOp, lookupV, hu, hd, hes, hz]
          split at hv
          · rename_i hc
            rw [if_pos hc]
            cases hf : findV (evalV ρ k) es 0 with
            | none =>
              rw [hf] at hv
              simp only [Option.some.injEq] at hv ⊢
              subst hv
              rfl
            | some q =>
              rw [hf] at hv
              simp only [Option.some.injEq] at hv ⊢
              subst hv
              rfl
          · cases hv
        · cases hv
      · cases h
    · cases h
  | mapUpdate t x k y =>
    simp only [ready] at h
    split at h
    · rename_i kt et hu
      split at h
      · rename_i d hd
        simp only [Option.some.injEq] at h
        subst h
        simp only [kOp, evalK_toO, evalKC_toO, Option.map_eq_some_iff] at hk
        obtain ⟨s, hs, rfl⟩ := hk
        unfold updateK at hs
        split at hs
        · rename_i o hx
          split at hs
          · rename_i es hes
            simp only [vOp, updateV, hu, hx, hd, hes]
            split at hs
            · rename_i hc
              rw [if_pos hc]
              cases hf : findV (evalV ρ k) es 0 with
              | none =>
                rw [hf] at hs
                simp only [Option.some.injEq] at hs ⊢
                subst hs
                rfl
              | some q =>
                rw [hf] at hs
                simp only [Option.some.injEq] at hs ⊢
                subst hs
                rfl
            · cases hs
          · cases hs
        · cases hs
      · cases h
    · cases h
  | _ => simp [ready] at h
end
end Go.Vw
end
section
/- Walking what is made ready. -/
namespace Go.Vw
open Go Go.RowKit Go.Abs

section
variable {P : Program} {K : Knobs} {X : ExtV}

def stepK (P : Program) (K : Knobs) (X : ExtV) (fl : Nat) (o : CO) (ρ : VEnv) (σ : St) (Q : V → VEnv → St → Prop) : Prop :=
  match o with
  | .cl x args => funcV (evalK ρ x) fun k a b => callV P K X fl k (a.map V.strip ++ args.map (evalKC ρ) ++ b.map V.strip) σ fun v σ => Q v ρ σ
  | o => holdV (kOp fl ρ σ o) Q
def runK (P : Program) (K : Knobs) (X : ExtV) (fl : Nat) : List CS → VEnv → St → (VEnv → St → Prop) → Prop
  | [], ρ, σ, Q => Q ρ σ
  | .s d o :: r, ρ, σ, Q => stepK P K X fl o ρ σ fun v ρ σ => runK P K X fl r (updV ρ d v) σ Q
  | .n o :: r, ρ, σ, Q => stepK P K X fl o ρ σ fun _ ρ σ => runK P K X fl r ρ σ Q
  | .g j w d o :: r, ρ, σ, Q => condV (gateV (ρ j) w) fun b => if b = true then stepK P K X fl o ρ σ fun v ρ σ => runK P K X fl r (updV ρ d v) σ Q else runK P K X fl r (updV ρ d (.tuple [])) σ Q

theorem ready_cl {wm : TypeId → Bool} {tk : Bool} {o : Op} {x : O} {l : List O} (h : ready P wm tk o = some (.cl x l)) : ∃ q f, o = .call q ∧ q.callee = .value f := by
  cases o with
  | call q =>
    obtain ⟨callee, args, ts⟩ := q
    cases callee with
    | value f => exact ⟨_, f, rfl, rfl⟩
    | builtin b =>
      exfalso
      cases b <;> simp only [ready] at h <;> (repeat' split at h) <;> first | (cases h; done) | (simp at h; done)
    | _ => simp [ready] at h
  | makeFunc fn a b => cases fn <;> simp [ready] at h
  | slice t x lo hi mx =>
    exfalso
    cases mx <;> simp only [ready] at h <;> (repeat' split at h) <;> first | (cases h; done) | (simp at h; done)
  | makeMap t n => cases n <;> simp [ready] at h
  | _ =>
    exfalso
    first
      | (simp only [ready] at h
         (repeat' split at h) <;> first | (cases h; done) | (simp at h; done))
      | (simp [ready] at h; done)
theorem callV_mono {fl f : Nat} {args : List V} {σ : St} {Q Q' : V → St → Prop} (h : callV P K X fl f args σ Q) (hq : ∀ v σ, Q v σ → Q' v σ) : callV P K X fl f args σ Q' := by
  obtain ⟨v, σ', h1, h2⟩ := h
  exact ⟨v, σ', h1, hq _ _ h2⟩
theorem stepK_sound {c : CxF} {tk : Bool} {o : Op} {co : CO} (hr : ready P c.wm tk o = some co) {ρ : VEnv} {σ : St} {Q Q' : V → VEnv → St → Prop} (hq : ∀ v ρ σ, Q v ρ σ → Q' v ρ σ) (h : stepK P K X c.fl co ρ σ Q) : stepV P K X c tk o ρ σ Q' := by
  have plain : (∀ x args, co ≠ .cl x args) → holdV (vOp ⟨P, c.wm, c.fl⟩ tk ρ o σ) Q' := by
    intro hne
    have hh : holdV (kOp c.fl ρ σ co) Q := by
      cases co <;> first | exact h | exact absurd rfl (hne _ _)
    unfold holdV at hh
    split at hh
    · rename_i v ρ1 σ1 hv
      rw [ready_sound hr hv]
      exact hq _ _ _ hh
    · exact hh.elim
  cases o with
  | call q =>
    obtain ⟨callee, args, ts⟩ := q
    cases callee with
    | value x =>
      simp only [ready, Option.some.injEq] at hr
      subst hr
      simp only [stepK, evalK_toO] at h
      simp only [stepV]
      unfold funcV at h ⊢
      split at h
      · rename_i k a b hx
        simp only [map_toO] at h
        exact callV_mono h (fun v σ h => hq _ _ _ h)
      · exact h.elim
    | builtin b =>
      simp only [stepV]
      exact plain (fun x l e => by subst e; obtain ⟨q, f, h1, h2⟩ := ready_cl hr; cases h1; cases h2)
    | _ => simp [ready] at hr
  | _ =>
    simp only [stepV]
    exact plain (fun x l e => by subst e; obtain ⟨q, f, h1, h2⟩ := ready_cl hr; cases h1)

theorem runK_sound {c : CxF} {all : List Oper} {Q : VEnv → St → Prop} : ∀ (rest : List Oper) (i : Nat) (l : List CS) (ρ : VEnv) (σ : St), readyS P c.wm all i rest = some l → runK P K X c.fl l ρ σ Q → runV P K X c all (withTakes all i rest) ρ σ Q
  | [], i, l, ρ, σ, hr, h => by
    simp only [readyS, Option.some.injEq] at hr
    subst hr
    exact h
  | o :: rest, i, l, ρ, σ, hr, h => by
    simp only [readyS] at hr
    split at hr
    · rename_i co l' hco hl
      have ih := fun (ρ : VEnv) (σ : St) (h : runK P K X c.fl l' ρ σ Q) => runK_sound rest (i + 1) l' ρ σ hl h
      simp only [withTakes, runV]
      cases hg : o.guard with
      | none =>
        rw [hg] at hr
        cases hd : o.dst with
        | none =>
          rw [hd] at hr
          simp only [Option.some.injEq] at hr
          subst hr
          simp only [runK] at h
          exact stepK_sound hco (fun v ρ σ h => ih _ _ h) h
        | some d =>
          rw [hd] at hr
          simp only [Option.some.injEq] at hr
          subst hr
          simp only [runK] at h
          exact stepK_sound hco (fun v ρ σ h => ih _ _ h) h
      | some q =>
        obtain ⟨j, want⟩ := q
        rw [hg] at hr
        cases hd : o.dst with
        | none => rw [hd] at hr; cases hr
        | some d =>
          rw [hd] at hr
          simp only at hr ⊢
          split at hr
          · rename_i k hk
            simp only [Option.some.injEq] at hr
            subst hr
            try rw [hk]
            simp only [runK] at h ⊢
            unfold condV at h ⊢
            split at h
            · split at h
              · rename_i e; rw [if_pos e]; exact stepK_sound hco (fun v ρ σ h => ih _ _ h) h
              · rename_i e; rw [if_neg e]; exact ih _ _ h
            · exact h.elim
          · cases hr
    · cases hr

theorem stepK_mono {fl : Nat} {o : CO} {ρ : VEnv} {σ : St} {Q Q' : V → VEnv → St → Prop} (hq : ∀ v ρ σ, Q v ρ σ → Q' v ρ σ) (h : stepK P K X fl o ρ σ Q) : stepK P K X fl o ρ σ Q' := by
  have hh : ∀ r, holdV r Q → holdV r Q' := by
    intro r h
    unfold holdV at h ⊢
    split at h
    · exact hq _ _ _ h
    · exact h.elim
  cases o with
  | cl x args =>
    simp only [stepK] at h ⊢
    unfold funcV at h ⊢
    split at h
    · exact callV_mono h (fun v σ h => hq _ _ _ h)
    · exact h.elim
  | _ =>
    simp only [stepK] at h ⊢
    exact hh _ h
theorem runK_mono {fl : Nat} {Q Q' : VEnv → St → Prop} (hq : ∀ ρ σ, Q ρ σ → Q' ρ σ) : ∀ {l : List CS} {ρ : VEnv} {σ : St}, runK P K X fl l ρ σ Q → runK P K X fl l ρ σ Q'
  | [], ρ, σ, h => hq _ _ h
  | .s d o :: r, ρ, σ, h => stepK_mono (fun _ _ _ h => runK_mono hq h) h
  | .n o :: r, ρ, σ, h => stepK_mono (fun _ _ _ h => runK_mono hq h) h
  | .g j w d o :: r, ρ, σ, h => by
    simp only [runK] at h ⊢
    unfold condV at h ⊢
    split at h
    · split at h
      · rename_i e; rw [if_pos e]; exact stepK_mono (fun _ _ _ h => runK_mono hq h) h
      · rename_i e; rw [if_neg e]; exact runK_mono hq h
    · exact h.elim

/-- What is ready comes to an end that is so. -/
def WC (P : Program) (K : Knobs) (X : ExtV) (wm : TypeId → Bool) (n fl : Nat) (tl : Bool) (cc : CC) (ρ : VEnv) (σ : St) (Q : Ex → VEnv → St → Prop) : Prop := ∀ k, readyC P wm K.quiet n k = some cc → W P K X ⟨n, wm, fl, tl⟩ k ρ σ Q
variable {wm : TypeId → Bool} {n fl : Nat} {tl : Bool} {ρ : VEnv} {σ : St} {Q : Ex → VEnv → St → Prop}
theorem WC_skip (h : Q .normal ρ σ) : WC P K X wm n fl tl .skip ρ σ Q := by
  intro k hk
  cases k <;> simp only [readyC] at hk <;> first
    | exact W_skip h
    | (repeat' split at hk) <;> first | (cases hk; done) | (simp at hk; done)
theorem WC_ret (h : Q .ret ρ σ) : WC P K X wm n fl tl .ret ρ σ Q := by
  intro k hk
  cases k <;> simp only [readyC] at hk <;> first
    | exact W_ret h
    | (repeat' split at hk) <;> first | (cases hk; done) | (simp at hk; done)
theorem WC_exit {id : Nat} (h : Q (.exit id) ρ σ) : WC P K X wm n fl tl (.exit id) ρ σ Q := by
  intro k hk
  cases k <;> simp only [readyC] at hk <;> first
    | (simp only [Option.some.injEq, CC.exit.injEq] at hk; subst hk; exact W_exit h)
    | (repeat' split at hk) <;> first | (cases hk; done) | (simp at hk; done)
theorem WC_r {l : List CS} (h : runK P K X fl l ρ σ (Q .normal)) : WC P K X wm n fl tl (.r l) ρ σ Q := by
  intro k hk
  cases k with
  | region id ops free =>
    simp only [readyC] at hk
    split at hk
    · rename_i hc
      simp only [Option.map_eq_some_iff] at hk
      obtain ⟨l', hl, hk⟩ := hk
      split at hk
      · cases hk
      · rename_i hs
        simp only [CC.r.injEq] at hk
        subst hk
        cases free with
        | false => exact W_region _ rfl hc.1 (runK_sound (c := ⟨n, wm, fl, tl⟩) ops.toList 0 l' ρ σ hl h)
        | true =>
          have hs' : seps P ops.toList = [] := Classical.byContradiction fun e => hs ⟨rfl, e⟩
          exact W_draw _ rfl (hc.2 rfl).1 (hc.2 rfl).2 (runK_sound (c := ⟨n, wm, fl, tl⟩) ops.toList 0 l' ρ σ hl (runK_mono (fun _ _ hq => ⟨by rw [hs']; rfl, hq⟩) h))
    · cases hk
  | _ => simp only [readyC] at hk <;> (repeat' split at hk) <;> first | (cases hk; done) | (simp at hk; done)
theorem WC_a {l : List CS} {ps : List (Nat × Nat)} (h : runK P K X fl l ρ σ (fun ρ' σ' => ps.all (apartB ρ') = true ∧ Q .normal ρ' σ')) : WC P K X wm n fl tl (.a l ps) ρ σ Q := by
  intro k hk
  cases k with
  | region id ops free =>
    simp only [readyC] at hk
    split at hk
    · rename_i hc
      simp only [Option.map_eq_some_iff] at hk
      obtain ⟨l', hl, hk⟩ := hk
      split at hk
      · rename_i hs
        simp only [CC.a.injEq] at hk
        obtain ⟨rfl, rfl⟩ := hk
        obtain ⟨rfl, _⟩ := hs
        exact W_draw _ rfl (hc.2 rfl).1 (hc.2 rfl).2 (runK_sound (c := ⟨n, wm, fl, tl⟩) ops.toList 0 l' ρ σ hl h)
      · cases hk
    · cases hk
  | _ => simp only [readyC] at hk <;> (repeat' split at hk) <;> first | (cases hk; done) | (simp at hk; done)
theorem WC_seq {a b : CC} (h : WC P K X wm n fl tl a ρ σ (fun ex ρ σ => match ex with | .normal => WC P K X wm n fl tl b ρ σ Q | e => Q e ρ σ)) : WC P K X wm n fl tl (.seq a b) ρ σ Q := by
  intro k hk
  cases k with
  | seq x y =>
    simp only [readyC] at hk
    split at hk
    · rename_i a' b' ha hb
      simp only [Option.some.injEq, CC.seq.injEq] at hk
      obtain ⟨rfl, rfl⟩ := hk
      refine W_seq (W_mono (h x ha) (fun ex ρ σ hq => ?_))
      cases ex with
      | normal => exact hq y hb
      | exit k => exact hq
      | ret => exact hq
    · cases hk
  | _ => simp only [readyC] at hk <;> (repeat' split at hk) <;> first | (cases hk; done) | (simp at hk; done)
theorem WC_cond {x : O} {a b : CC} {t : Bool} (hb : evalK ρ x = .bool t) (h : WC P K X wm n fl tl (if t then a else b) ρ σ Q) : WC P K X wm n fl tl (.cond x a b) ρ σ Q := by
  intro k hk
  cases k with
  | cond x' y z =>
    simp only [readyC] at hk
    split at hk
    · rename_i a' b' ha hb'
      simp only [Option.some.injEq, CC.cond.injEq] at hk
      obtain ⟨rfl, rfl, rfl⟩ := hk
      rw [evalK_toO] at hb
      refine W_cond hb ?_
      cases t
      · exact h z hb'
      · exact h y ha
    · cases hk
  | _ => simp only [readyC] at hk <;> (repeat' split at hk) <;> first | (cases hk; done) | (simp at hk; done)
theorem WC_block {id : Nat} {a : CC} (h : WC P K X wm n fl tl a ρ σ (fun ex ρ σ => match ex with | .exit k => Q (if k = id then .normal else .exit k) ρ σ | e => Q e ρ σ)) : WC P K X wm n fl tl (.block id a) ρ σ Q := by
  intro k hk
  cases k with
  | block id' x =>
    simp only [readyC, Option.map_eq_some_iff, CC.block.injEq] at hk
    obtain ⟨a', ha, rfl, rfl⟩ := hk
    exact W_block (h x ha)
  | _ => simp only [readyC] at hk <;> (repeat' split at hk) <;> first | (cases hk; done) | (simp at hk; done)
theorem WC_loop {a : CC} (h : WC P K X wm n fl tl a ρ σ (fun ex ρ1 σ1 => match ex with
    | .normal => WC P K X wm n fl tl (.loop a) (iterEnd tl σ.size ρ1 σ1).1 (iterEnd tl σ.size ρ1 σ1).2 Q
    | .exit k => Q (.exit k) (iterEnd tl σ.size ρ1 σ1).1 (iterEnd tl σ.size ρ1 σ1).2
    | .ret => Q .ret ρ1 σ1)) : WC P K X wm n fl tl (.loop a) ρ σ Q := by
  intro k hk
  cases k with
  | loop x =>
    simp only [readyC, Option.map_eq_some_iff, CC.loop.injEq] at hk
    obtain ⟨a', ha, rfl⟩ := hk
    refine W_loop (W_mono (h x ha) (fun ex ρ σ hq => ?_))
    cases ex with
    | normal => exact hq (.loop x) (by simp only [readyC, ha, Option.map_some])
    | exit k => exact hq
    | ret => exact hq
  | _ => simp only [readyC] at hk <;> (repeat' split at hk) <;> first | (cases hk; done) | (simp at hk; done)
theorem WC_mono {cc : CC} {Q' : Ex → VEnv → St → Prop} (h : WC P K X wm n fl tl cc ρ σ Q') (hq : ∀ ex ρ σ, Q' ex ρ σ → Q ex ρ σ) : WC P K X wm n fl tl cc ρ σ Q := fun k hk => W_mono (h k hk) hq

def resK (σ : St) (ρ : VEnv) : CR → Option V
  | .t n => some (ρ n)
  | .c a n => match ρ a with
    | .ptr o off => match σ.get o with
      | some (.cells vs) => asValK n vs off
      | _ => none
    | _ => none
def retK : List CR → List V → V
  | [.t _], [v] => v.keep
  | _, l => (oneOrAllV l).stripAll
theorem ret_ready : ∀ (rs : List ResultVar) (l : List CR) (vs : List V), mapO (readyR P) rs = some l → retV rs vs = retK l vs := by
  intro rs l vs h
  cases rs with
  | nil =>
    simp only [mapO, Option.some.injEq] at h
    subst h
    rfl
  | cons r rs =>
    simp only [mapO] at h
    split at h
    · rename_i y l' hy hl
      simp only [Option.some.injEq] at h
      subst h
      cases rs with
      | nil =>
        simp only [mapO, Option.some.injEq] at hl
        subst hl
        cases r with
        | tmp t =>
          simp only [readyR, Option.some.injEq] at hy
          subst hy
          cases vs with
          | nil => rfl
          | cons v vs => cases vs <;> rfl
        | cell a t =>
          simp only [readyR, Option.map_eq_some_iff] at hy
          obtain ⟨n, _, rfl⟩ := hy
          rfl
      | cons r2 rs2 =>
        simp only [mapO] at hl
        split at hl
        · simp only [Option.some.injEq] at hl
          subst hl
          cases r <;> cases y <;> rfl
        · cases hl
    · cases h
/-- A call comes to this. -/
def Ends (res : List CR) (n : Nat) (ρ : VEnv) (σ1 : St) (v : V) (σ' : St) : Prop := ∃ l, mapO (resK σ1 ρ) res = some l ∧ callEnd n (retK res l) σ1 = (v, σ')
theorem res_ready {σ1 : St} : ∀ (rs : List ResultVar) (l : List CR) (vs : List V), mapO (readyR P) rs = some l → mapO (resK σ1 ρ) l = some vs → allA (resV P σ1 ρ) rs = some vs
  | [], l, vs, h, k => by
    simp only [mapO, Option.some.injEq] at h
    subst h
    simp only [mapO, Option.some.injEq] at k
    subst k
    rfl
  | r :: rs, l, vs, h, k => by
    simp only [mapO] at h
    split at h
    · rename_i y l' hy hl
      simp only [Option.some.injEq] at h
      subst h
      simp only [mapO] at k
      split at k
      · rename_i v vs' hv hvs
        simp only [Option.some.injEq] at k
        subst k
        have h2 := res_ready rs l' vs' hl hvs
        have h1 : resV P σ1 ρ r = some v := by
          cases r with
          | tmp t =>
            simp only [readyR, Option.some.injEq] at hy
            subst hy
            exact hv
          | cell a t =>
            simp only [readyR, Option.map_eq_some_iff] at hy
            obtain ⟨q, hq, rfl⟩ := hy
            simp only [resK] at hv
            simp only [resV]
            split at hv
            · rename_i o off ha
              simp only [ha]
              split at hv
              · rename_i cs hcs
                simp only [hcs, asVal_shape hq]
                exact hv
              · cases hv
            · cases hv
        simp only [allA, h1, h2]
      · cases k
    · cases h
/-- A function is walked. -/
theorem C_call {fl f : Nat} {cf : CF} {args : List V} {v : V} {σ' : St} (hf : readyF P K f = some cf) (hi : K.inn f = true) (hn : args.length ≤ cf.n)
    (h : WC P K X (K.wm f) cf.n (if K.quiet f then max fl σ.size else fl) (K.tl f) cf.code (fun t => args.getD t .undef) σ (fun ex ρ1 σ1 => (ex = .normal ∨ ex = .ret) ∧ Ends cf.res σ.size ρ1 σ1 v σ')) : Big P K X (.call fl f args σ v σ') := by
  unfold readyF at hf
  split at hf
  · rename_i fn hfn
    split at hf
    · rename_i c hc
      split at hf
      · rename_i k r hk hr
        simp only [Option.some.injEq] at hf
        subst hf
        refine W_call hi hfn hc hn (W_mono (h c hk) (fun ex ρ1 σ1 ⟨h1, l, h2, h3⟩ => ⟨h1, l, res_ready _ _ _ hr h2, by rw [ret_ready _ _ _ hr]; exact h3⟩))
      · cases hf
    · cases hf
  · cases hf
end
end Go.Vw
end
section
/- Walking code by rewriting. -/
namespace Go.Vw
open Go Go.RowKit Go.Abs

/-- The code of a function, however numbered. -/
structure Has (P : Program) (K : Knobs) (f : Nat) (q : Bool) (cf : CF) : Prop where
  code : readyF P K f = some cf
  inn : K.inn f = true
  quiet : K.quiet f = q
  tl : K.tl f = true

section
variable {P : Program} {K : Knobs} {X : ExtV}
def exK (Q : Ex → VEnv → St → Prop) (R : VEnv → St → Prop) : Ex → VEnv → St → Prop
  | .normal, ρ, σ => R ρ σ
  | .exit k, ρ, σ => Q (.exit k) ρ σ
  | .ret, ρ, σ => Q .ret ρ σ
def blockK (id : Nat) (Q : Ex → VEnv → St → Prop) : Ex → VEnv → St → Prop
  | .normal, ρ, σ => Q .normal ρ σ
  | .exit k, ρ, σ => Q (if k = id then .normal else .exit k) ρ σ
  | .ret, ρ, σ => Q .ret ρ σ
def goK (P : Program) (K : Knobs) (X : ExtV) (wm : TypeId → Bool) (n fl : Nat) (tl : Bool) : CC → VEnv → St → (Ex → VEnv → St → Prop) → Prop
  | .skip, ρ, σ, Q => Q .normal ρ σ
  | .r l, ρ, σ, Q => runK P K X fl l ρ σ (Q .normal)
  | .a l ps, ρ, σ, Q => runK P K X fl l ρ σ fun ρ' σ' => ps.all (apartB ρ') = true ∧ Q .normal ρ' σ'
  | .seq a b, ρ, σ, Q => goK P K X wm n fl tl a ρ σ (exK Q fun ρ σ => goK P K X wm n fl tl b ρ σ Q)
  | .cond x a b, ρ, σ, Q => condV (boolV (evalK ρ x)) fun t => if t = true then goK P K X wm n fl tl a ρ σ Q else goK P K X wm n fl tl b ρ σ Q
  | .block id a, ρ, σ, Q => goK P K X wm n fl tl a ρ σ (blockK id Q)
  | .loop a, ρ, σ, Q => WC P K X wm n fl tl (.loop a) ρ σ Q
  | .exit id, ρ, σ, Q => Q (.exit id) ρ σ
  | .ret, ρ, σ, Q => Q .ret ρ σ
variable {wm : TypeId → Bool} {n fl : Nat} {tl : Bool}
theorem goK_sound : ∀ (c : CC) {ρ : VEnv} {σ : St} {Q : Ex → VEnv → St → Prop}, goK P K X wm n fl tl c ρ σ Q → WC P K X wm n fl tl c ρ σ Q
  | .skip, _, _, _, h => WC_skip h
  | .r l, _, _, _, h => WC_r h
  | .a l ps, _, _, _, h => WC_a h
  | .seq a b, _, _, _, h => WC_seq (WC_mono (goK_sound a h) (fun ex ρ σ h => by
      cases ex
      · exact goK_sound b h
      · exact h
      · exact h))
  | .cond x a b, _, _, _, h => by
    simp only [goK] at h
    unfold condV boolV at h
    split at h
    · rename_i t ht
      split at ht
      · rename_i t' hx
        simp only [Option.some.injEq] at ht
        subst ht
        refine WC_cond hx ?_
        cases t'
        · exact goK_sound b h
        · exact goK_sound a h
      · cases ht
    · exact h.elim
  | .block id a, _, _, _, h => WC_block (WC_mono (goK_sound a h) (fun ex ρ σ h => by cases ex <;> exact h))
  | .loop a, _, _, _, h => h
  | .exit id, _, _, _, h => WC_exit h
  | .ret, _, _, _, h => WC_ret h
theorem goK_mono : ∀ (c : CC) {ρ : VEnv} {σ : St} {Q Q' : Ex → VEnv → St → Prop} (_ : ∀ ex ρ σ, Q ex ρ σ → Q' ex ρ σ), goK P K X wm n fl tl c ρ σ Q → goK P K X wm n fl tl c ρ σ Q'
  | .skip, _, _, _, _, hq, h => hq _ _ _ h
  | .r l, _, _, _, _, hq, h => runK_mono (fun _ _ h => hq _ _ _ h) h
  | .a l ps, _, _, _, _, hq, h => runK_mono (fun _ _ h => ⟨h.1, hq _ _ _ h.2⟩) h
  | .seq a b, _, _, _, _, hq, h => goK_mono a (fun ex ρ σ h => by
      cases ex
      · exact goK_mono b hq h
      · exact hq _ _ _ h
      · exact hq _ _ _ h) h
  | .cond x a b, _, _, _, _, hq, h => by
    simp only [goK] at h ⊢
    unfold condV at h ⊢
    split at h
    · split at h
      · rename_i e; rw [if_pos e]; exact goK_mono a hq h
      · rename_i e; rw [if_neg e]; exact goK_mono b hq h
    · exact h.elim
  | .block id a, _, _, _, _, hq, h => goK_mono a (fun ex ρ σ h => by
      cases ex
      · exact hq _ _ _ h
      · exact hq _ _ _ h
      · exact hq _ _ _ h) h
  | .loop a, _, _, _, _, hq, h => WC_mono h hq
  | .exit id, _, _, _, _, hq, h => hq _ _ _ h
  | .ret, _, _, _, _, hq, h => hq _ _ _ h
theorem goK_loop {a : CC} {ρ : VEnv} {σ : St} {Q : Ex → VEnv → St → Prop} (h : goK P K X wm n fl tl a ρ σ (fun ex ρ1 σ1 => match ex with
    | .normal => WC P K X wm n fl tl (.loop a) (iterEnd tl σ.size ρ1 σ1).1 (iterEnd tl σ.size ρ1 σ1).2 Q
    | .exit k => Q (.exit k) (iterEnd tl σ.size ρ1 σ1).1 (iterEnd tl σ.size ρ1 σ1).2
    | .ret => Q .ret ρ1 σ1)) : WC P K X wm n fl tl (.loop a) ρ σ Q := WC_loop (goK_sound a h)

/-! ### What is left to do, as data -/
inductive Lf where
  | seq (b : CC)
  | block (id : Nat)
  | loop (a : CC) (m : Nat)
variable (P K X wm n fl tl) in
def contM (Q : Ex → VEnv → St → Prop) : List Lf → Ex → VEnv → St → Prop
  | [], ex, ρ, σ => Q ex ρ σ
  | .seq b :: k, ex, ρ, σ => exK (contM Q k) (fun ρ σ => goK P K X wm n fl tl b ρ σ (contM Q k)) ex ρ σ
  | .block id :: k, ex, ρ, σ => blockK id (contM Q k) ex ρ σ
  | .loop a m :: k, ex, ρ, σ => match ex with
    | .normal => WC P K X wm n fl tl (.loop a) (iterEnd tl m ρ σ).1 (iterEnd tl m ρ σ).2 (contM Q k)
    | .exit i => contM Q k (.exit i) (iterEnd tl m ρ σ).1 (iterEnd tl m ρ σ).2
    | .ret => contM Q k .ret ρ σ
variable (P K X wm n fl tl) in
def goM (Q : Ex → VEnv → St → Prop) (c : CC) (k : List Lf) (ρ : VEnv) (σ : St) : Prop := goK P K X wm n fl tl c ρ σ (contM P K X wm n fl tl Q k)
variable (P K X wm n fl tl) in
def runM (Q : Ex → VEnv → St → Prop) (l : List CS) (ps : List (Nat × Nat)) (k : List Lf) (ρ : VEnv) (σ : St) : Prop := runK P K X fl l ρ σ fun ρ σ => ps.all (apartB ρ) = true ∧ contM P K X wm n fl tl Q k .normal ρ σ
variable (P K X wm n fl tl) in
def holdM (Q : Ex → VEnv → St → Prop) (r : Option (V × VEnv × St)) (d : Option Nat) (l : List CS) (ps : List (Nat × Nat)) (k : List Lf) : Prop := holdV r fun v ρ σ => runM P K X wm n fl tl Q l ps k (updVD ρ d v) σ
variable (P K X wm n fl tl) in
def callM (Q : Ex → VEnv → St → Prop) (f : Nat) (args : List V) (d : Option Nat) (l : List CS) (ps : List (Nat × Nat)) (k : List Lf) (ρ : VEnv) (σ : St) : Prop := callV P K X fl f args σ fun v σ => runM P K X wm n fl tl Q l ps k (updVD ρ d v) σ
variable (P K X wm n fl tl) in
def funcM (Q : Ex → VEnv → St → Prop) (x : V) (args : List V) (d : Option Nat) (l : List CS) (ps : List (Nat × Nat)) (k : List Lf) (ρ : VEnv) (σ : St) : Prop := funcV x fun f a b => callM P K X wm n fl tl Q f (a.map V.strip ++ args ++ b.map V.strip) d l ps k ρ σ
variable (P K X wm n fl tl) in
def stepM (Q : Ex → VEnv → St → Prop) (o : CO) (d : Option Nat) (l : List CS) (ps : List (Nat × Nat)) (k : List Lf) (ρ : VEnv) (σ : St) : Prop := stepK P K X fl o ρ σ fun v ρ σ => runM P K X wm n fl tl Q l ps k (updVD ρ d v) σ
variable (P K X wm n fl tl) in
def guardM (Q : Ex → VEnv → St → Prop) (t : Option Bool) (o : CO) (d : Nat) (l : List CS) (ps : List (Nat × Nat)) (k : List Lf) (ρ : VEnv) (σ : St) : Prop := condV t fun b => if b = true then stepM P K X wm n fl tl Q o (some d) l ps k ρ σ else runM P K X wm n fl tl Q l ps k (updV ρ d (.tuple [])) σ
variable (P K X wm n fl tl) in
def condM (Q : Ex → VEnv → St → Prop) (t : Option Bool) (a b : CC) (k : List Lf) (ρ : VEnv) (σ : St) : Prop := condV t fun t => if t = true then goM P K X wm n fl tl Q a k ρ σ else goM P K X wm n fl tl Q b k ρ σ
variable (P K X wm n fl tl) in
def loopM (Q : Ex → VEnv → St → Prop) (a : CC) (k : List Lf) (ρ : VEnv) (σ : St) : Prop := WC P K X wm n fl tl (.loop a) ρ σ (contM P K X wm n fl tl Q k)
variable {Q : Ex → VEnv → St → Prop} {ρ : VEnv} {σ : St} {k : List Lf}

@[simp] theorem contM_nil (ex : Ex) : contM P K X wm n fl tl Q [] ex ρ σ = Q ex ρ σ := (rfl)
@[simp] theorem contM_sn (b : CC) : contM P K X wm n fl tl Q (.seq b :: k) .normal ρ σ = goM P K X wm n fl tl Q b k ρ σ := (rfl)
@[simp] theorem contM_se (b : CC) (i : Nat) : contM P K X wm n fl tl Q (.seq b :: k) (.exit i) ρ σ = contM P K X wm n fl tl Q k (.exit i) ρ σ := (rfl)
@[simp] theorem contM_sr (b : CC) : contM P K X wm n fl tl Q (.seq b :: k) .ret ρ σ = contM P K X wm n fl tl Q k .ret ρ σ := (rfl)
@[simp] theorem contM_bn (id : Nat) : contM P K X wm n fl tl Q (.block id :: k) .normal ρ σ = contM P K X wm n fl tl Q k .normal ρ σ := (rfl)
@[simp] theorem contM_be (id i : Nat) : contM P K X wm n fl tl Q (.block id :: k) (.exit i) ρ σ = contM P K X wm n fl tl Q k (if i = id then .normal else .exit i) ρ σ := (rfl)
@[simp] theorem contM_br (id : Nat) : contM P K X wm n fl tl Q (.block id :: k) .ret ρ σ = contM P K X wm n fl tl Q k .ret ρ σ := (rfl)
@[simp] theorem contM_ln (a : CC) (m : Nat) : contM P K X wm n fl tl Q (.loop a m :: k) .normal ρ σ = loopM P K X wm n fl tl Q a k (iterEnd tl m ρ σ).1 (iterEnd tl m ρ σ).2 := (rfl)
@[simp] theorem contM_le (a : CC) (m i : Nat) : contM P K X wm n fl tl Q (.loop a m :: k) (.exit i) ρ σ = contM P K X wm n fl tl Q k (.exit i) (iterEnd tl m ρ σ).1 (iterEnd tl m ρ σ).2 := (rfl)
@[simp] theorem contM_lr (a : CC) (m : Nat) : contM P K X wm n fl tl Q (.loop a m :: k) .ret ρ σ = contM P K X wm n fl tl Q k .ret ρ σ := (rfl)
/-- One round of a loop. -/
theorem loopM_round {a : CC} (h : goM P K X wm n fl tl Q a (.loop a σ.size :: k) ρ σ) : loopM P K X wm n fl tl Q a k ρ σ := by
  refine goK_loop (goK_mono a (fun ex ρ1 σ1 h => ?_) h)
  cases ex <;> exact h
theorem loopM_at {a a' : CC} (e : a = a') (h : goM P K X wm n fl tl Q a' (.loop a σ.size :: k) ρ σ) : loopM P K X wm n fl tl Q a k ρ σ := by
  subst e; exact loopM_round h
theorem loopM_to {a : CC} {σ' : St} (h : loopM P K X wm n fl tl Q a k ρ σ') (e : σ = σ') : loopM P K X wm n fl tl Q a k ρ σ := by
  subst e; exact h
theorem contM_to {ex : Ex} {σ' : St} (h : contM P K X wm n fl tl Q k ex ρ σ') (e : σ = σ') : contM P K X wm n fl tl Q k ex ρ σ := by
  subst e; exact h
@[simp] theorem goM_skip : goM P K X wm n fl tl Q .skip k ρ σ = contM P K X wm n fl tl Q k .normal ρ σ := (rfl)
@[simp] theorem goM_r (l : List CS) : goM P K X wm n fl tl Q (.r l) k ρ σ = runM P K X wm n fl tl Q l [] k ρ σ := by
  unfold goM runM goK
  congr 1
  funext ρ σ
  simp
@[simp] theorem goM_a (l : List CS) (ps : List (Nat × Nat)) : goM P K X wm n fl tl Q (.a l ps) k ρ σ = runM P K X wm n fl tl Q l ps k ρ σ := (rfl)
@[simp] theorem goM_seq (a b : CC) : goM P K X wm n fl tl Q (.seq a b) k ρ σ = goM P K X wm n fl tl Q a (.seq b :: k) ρ σ := (rfl)
@[simp] theorem goM_cond (x : O) (a b : CC) : goM P K X wm n fl tl Q (.cond x a b) k ρ σ = condM P K X wm n fl tl Q (boolV (evalK ρ x)) a b k ρ σ := (rfl)
@[simp] theorem goM_block (id : Nat) (a : CC) : goM P K X wm n fl tl Q (.block id a) k ρ σ = goM P K X wm n fl tl Q a (.block id :: k) ρ σ := (rfl)
@[simp] theorem goM_loop (a : CC) : goM P K X wm n fl tl Q (.loop a) k ρ σ = loopM P K X wm n fl tl Q a k ρ σ := (rfl)
@[simp] theorem goM_exit (id : Nat) : goM P K X wm n fl tl Q (.exit id) k ρ σ = contM P K X wm n fl tl Q k (.exit id) ρ σ := (rfl)
@[simp] theorem goM_ret : goM P K X wm n fl tl Q .ret k ρ σ = contM P K X wm n fl tl Q k .ret ρ σ := (rfl)
@[simp] theorem condM_t (a b : CC) : condM P K X wm n fl tl Q (some true) a b k ρ σ = goM P K X wm n fl tl Q a k ρ σ := (rfl)
@[simp] theorem condM_f (a b : CC) : condM P K X wm n fl tl Q (some false) a b k ρ σ = goM P K X wm n fl tl Q b k ρ σ := (rfl)
@[simp] theorem runM_nil : runM P K X wm n fl tl Q [] [] k ρ σ = contM P K X wm n fl tl Q k .normal ρ σ := by
  show (([] : List (Nat × Nat)).all (apartB ρ) = true ∧ contM P K X wm n fl tl Q k .normal ρ σ) = _
  simp
@[simp] theorem runM_ps (p : Nat × Nat) (ps : List (Nat × Nat)) : runM P K X wm n fl tl Q [] (p :: ps) k ρ σ = (apartB ρ p = true ∧ runM P K X wm n fl tl Q [] ps k ρ σ) := by
  show ((p :: ps).all (apartB ρ) = true ∧ contM P K X wm n fl tl Q k .normal ρ σ) = (apartB ρ p = true ∧ (ps.all (apartB ρ) = true ∧ contM P K X wm n fl tl Q k .normal ρ σ))
  simp [and_assoc]
@[simp] theorem runM_s (d : Nat) (o : CO) (r : List CS) (ps : List (Nat × Nat)) : runM P K X wm n fl tl Q (.s d o :: r) ps k ρ σ = stepM P K X wm n fl tl Q o (some d) r ps k ρ σ := (rfl)
@[simp] theorem runM_n (o : CO) (r : List CS) (ps : List (Nat × Nat)) : runM P K X wm n fl tl Q (.n o :: r) ps k ρ σ = stepM P K X wm n fl tl Q o none r ps k ρ σ := (rfl)
@[simp] theorem runM_g (j : Nat) (w : Bool) (d : Nat) (o : CO) (r : List CS) (ps : List (Nat × Nat)) : runM P K X wm n fl tl Q (.g j w d o :: r) ps k ρ σ = guardM P K X wm n fl tl Q (gateV (ρ j) w) o d r ps k ρ σ := (rfl)
@[simp] theorem guardM_t (o : CO) (d : Nat) (r : List CS) (ps : List (Nat × Nat)) : guardM P K X wm n fl tl Q (some true) o d r ps k ρ σ = stepM P K X wm n fl tl Q o (some d) r ps k ρ σ := (rfl)
@[simp] theorem guardM_f (o : CO) (d : Nat) (r : List CS) (ps : List (Nat × Nat)) : guardM P K X wm n fl tl Q (some false) o d r ps k ρ σ = runM P K X wm n fl tl Q r ps k (updV ρ d (.tuple [])) σ := (rfl)
@[simp] theorem gateV_bool (b w : Bool) : gateV (.bool b) w = some (b == w) := by cases b <;> cases w <;> rfl
@[simp] theorem gateV_gone (w : Bool) : gateV (.tuple []) w = some false := by cases w <;> rfl
@[simp] theorem holdM_d (v : V) (d : Nat) (r : List CS) (ps : List (Nat × Nat)) : holdM P K X wm n fl tl Q (some (v, ρ, σ)) (some d) r ps k = runM P K X wm n fl tl Q r ps k (updV ρ d v) σ := (rfl)
@[simp] theorem holdM_n (v : V) (r : List CS) (ps : List (Nat × Nat)) : holdM P K X wm n fl tl Q (some (v, ρ, σ)) none r ps k = runM P K X wm n fl tl Q r ps k ρ σ := (rfl)
@[simp] theorem funcM_func (f : Nat) (a b args : List V) (d : Option Nat) (r : List CS) (ps : List (Nat × Nat)) : funcM P K X wm n fl tl Q (.func f a b) args d r ps k ρ σ = callM P K X wm n fl tl Q f (a.map V.strip ++ args ++ b.map V.strip) d r ps k ρ σ := (rfl)
theorem callM_of {f : Nat} {args : List V} {d : Option Nat} {r : List CS} {ps : List (Nat × Nat)} {v : V} {σ' : St} (h : Big P K X (.call fl f args σ v σ')) (hw : runM P K X wm n fl tl Q r ps k (updVD ρ d v) σ') : callM P K X wm n fl tl Q f args d r ps k ρ σ := ⟨v, σ', h, hw⟩
theorem callM_ex1 {α : Type} {F : α → Prop} {vf : α → V} {sf : α → St} {f : Nat} {args : List V} {d : Option Nat} {r : List CS} {ps : List (Nat × Nat)} (h : ∃ a, F a ∧ Big P K X (.call fl f args σ (vf a) (sf a))) (hw : ∀ a, F a → runM P K X wm n fl tl Q r ps k (updVD ρ d (vf a)) (sf a)) : callM P K X wm n fl tl Q f args d r ps k ρ σ := by
  obtain ⟨a, h1, h2⟩ := h
  exact ⟨_, _, h2, hw a h1⟩
theorem callM_ex2 {α β : Type} {F : α → β → Prop} {vf : α → β → V} {sf : α → β → St} {f : Nat} {args : List V} {d : Option Nat} {r : List CS} {ps : List (Nat × Nat)} (h : ∃ a b, F a b ∧ Big P K X (.call fl f args σ (vf a b) (sf a b))) (hw : ∀ a b, F a b → runM P K X wm n fl tl Q r ps k (updVD ρ d (vf a b)) (sf a b)) : callM P K X wm n fl tl Q f args d r ps k ρ σ := by
  obtain ⟨a, b, h1, h2⟩ := h
  exact ⟨_, _, h2, hw a b h1⟩
@[simp] theorem stepM_cl (x : O) (args : List O) (d : Option Nat) (r : List CS) (ps : List (Nat × Nat)) : stepM P K X wm n fl tl Q (.cl x args) d r ps k ρ σ = funcM P K X wm n fl tl Q (evalK ρ x) (args.map (evalKC ρ)) d r ps k ρ σ := (rfl)
@[simp] theorem stepM_mv (tk_ : Bool) (x_ : O) (d : Option Nat) (r : List CS) (ps : List (Nat × Nat)) : stepM P K X wm n fl tl Q (.mv tk_ x_) d r ps k ρ σ = holdM P K X wm n fl tl Q (kOp fl ρ σ (.mv tk_ x_)) d r ps k := (rfl)
@[simp] theorem stepM_pk (b_ x_ y_ : O) (d : Option Nat) (r : List CS) (ps : List (Nat × Nat)) : stepM P K X wm n fl tl Q (.pk b_ x_ y_) d r ps k ρ σ = holdM P K X wm n fl tl Q (kOp fl ρ σ (.pk b_ x_ y_)) d r ps k := (rfl)
@[simp] theorem stepM_nb (t_ u_ : TypeId) (d : Option Nat) (r : List CS) (ps : List (Nat × Nat)) : stepM P K X wm n fl tl Q (.nb t_ u_) d r ps k ρ σ = holdM P K X wm n fl tl Q (kOp fl ρ σ (.nb t_ u_)) d r ps k := (rfl)
@[simp] theorem stepM_al (z_ : List V) (d : Option Nat) (r : List CS) (ps : List (Nat × Nat)) : stepM P K X wm n fl tl Q (.al z_) d r ps k ρ σ = holdM P K X wm n fl tl Q (kOp fl ρ σ (.al z_)) d r ps k := (rfl)
@[simp] theorem stepM_bx (tk_ : Bool) (x_ : O) (d : Option Nat) (r : List CS) (ps : List (Nat × Nat)) : stepM P K X wm n fl tl Q (.bx tk_ x_) d r ps k ρ σ = holdM P K X wm n fl tl Q (kOp fl ρ σ (.bx tk_ x_)) d r ps k := (rfl)
@[simp] theorem stepM_bd (tk_ : Bool) (z_ : List V) (ps_ : List (Nat × Nat × O)) (d : Option Nat) (r : List CS) (ps : List (Nat × Nat)) : stepM P K X wm n fl tl Q (.bd tk_ z_ ps_) d r ps k ρ σ = holdM P K X wm n fl tl Q (kOp fl ρ σ (.bd tk_ z_ ps_)) d r ps k := (rfl)
@[simp] theorem stepM_bs (w_ : Bool) (n_ s_ : Nat) (z_ : List V) (ps_ : List (Nat × O)) (d : Option Nat) (r : List CS) (ps : List (Nat × Nat)) : stepM P K X wm n fl tl Q (.bs w_ n_ s_ z_ ps_) d r ps k ρ σ = holdM P K X wm n fl tl Q (kOp fl ρ σ (.bs w_ n_ s_ z_ ps_)) d r ps k := (rfl)
@[simp] theorem stepM_ld (tk_ : Bool) (n_ : Option Nat) (x_ : O) (d : Option Nat) (r : List CS) (ps : List (Nat × Nat)) : stepM P K X wm n fl tl Q (.ld tk_ n_ x_) d r ps k ρ σ = holdM P K X wm n fl tl Q (kOp fl ρ σ (.ld tk_ n_ x_)) d r ps k := (rfl)
@[simp] theorem stepM_st (tk_ : Bool) (n_ : Nat) (a_ x_ : O) (d : Option Nat) (r : List CS) (ps : List (Nat × Nat)) : stepM P K X wm n fl tl Q (.st tk_ n_ a_ x_) d r ps k ρ σ = holdM P K X wm n fl tl Q (kOp fl ρ σ (.st tk_ n_ a_ x_)) d r ps k := (rfl)
@[simp] theorem stepM_nc (x_ : O) (d : Option Nat) (r : List CS) (ps : List (Nat × Nat)) : stepM P K X wm n fl tl Q (.nc x_) d r ps k ρ σ = holdM P K X wm n fl tl Q (kOp fl ρ σ (.nc x_)) d r ps k := (rfl)
@[simp] theorem stepM_bo (op_ : BinOp) (q_ : Nat) (x_ y_ : O) (d : Option Nat) (r : List CS) (ps : List (Nat × Nat)) : stepM P K X wm n fl tl Q (.bo op_ q_ x_ y_) d r ps k ρ σ = holdM P K X wm n fl tl Q (kOp fl ρ σ (.bo op_ q_ x_ y_)) d r ps k := (rfl)
@[simp] theorem stepM_uo (op_ : UnOp) (x_ : O) (d : Option Nat) (r : List CS) (ps : List (Nat × Nat)) : stepM P K X wm n fl tl Q (.uo op_ x_) d r ps k ρ σ = holdM P K X wm n fl tl Q (kOp fl ρ σ (.uo op_ x_)) d r ps k := (rfl)
@[simp] theorem stepM_ci (k_ : IntKind) (x_ : O) (d : Option Nat) (r : List CS) (ps : List (Nat × Nat)) : stepM P K X wm n fl tl Q (.ci k_ x_) d r ps k ρ σ = holdM P K X wm n fl tl Q (kOp fl ρ σ (.ci k_ x_)) d r ps k := (rfl)
@[simp] theorem stepM_cs (x_ : O) (d : Option Nat) (r : List CS) (ps : List (Nat × Nat)) : stepM P K X wm n fl tl Q (.cs x_) d r ps k ρ σ = holdM P K X wm n fl tl Q (kOp fl ρ σ (.cs x_)) d r ps k := (rfl)
@[simp] theorem stepM_cb (x_ : O) (d : Option Nat) (r : List CS) (ps : List (Nat × Nat)) : stepM P K X wm n fl tl Q (.cb x_) d r ps k ρ σ = holdM P K X wm n fl tl Q (kOp fl ρ σ (.cb x_)) d r ps k := (rfl)
@[simp] theorem stepM_cc (x_ : O) (d : Option Nat) (r : List CS) (ps : List (Nat × Nat)) : stepM P K X wm n fl tl Q (.cc x_) d r ps k ρ σ = holdM P K X wm n fl tl Q (kOp fl ρ σ (.cc x_)) d r ps k := (rfl)
@[simp] theorem stepM_mf (f_ : Nat) (a_ b_ : List O) (d : Option Nat) (r : List CS) (ps : List (Nat × Nat)) : stepM P K X wm n fl tl Q (.mf f_ a_ b_) d r ps k ρ σ = holdM P K X wm n fl tl Q (kOp fl ρ σ (.mf f_ a_ b_)) d r ps k := (rfl)
@[simp] theorem stepM_sS (x_ : O) (lo_ hi_ : Option O) (d : Option Nat) (r : List CS) (ps : List (Nat × Nat)) : stepM P K X wm n fl tl Q (.sS x_ lo_ hi_) d r ps k ρ σ = holdM P K X wm n fl tl Q (kOp fl ρ σ (.sS x_ lo_ hi_)) d r ps k := (rfl)
@[simp] theorem stepM_sV (s_ : Nat) (x_ : O) (lo_ hi_ : Option O) (d : Option Nat) (r : List CS) (ps : List (Nat × Nat)) : stepM P K X wm n fl tl Q (.sV s_ x_ lo_ hi_) d r ps k ρ σ = holdM P K X wm n fl tl Q (kOp fl ρ σ (.sV s_ x_ lo_ hi_)) d r ps k := (rfl)
@[simp] theorem stepM_fa (x_ : O) (off_ : Nat) (d : Option Nat) (r : List CS) (ps : List (Nat × Nat)) : stepM P K X wm n fl tl Q (.fa x_ off_) d r ps k ρ σ = holdM P K X wm n fl tl Q (kOp fl ρ σ (.fa x_ off_)) d r ps k := (rfl)
@[simp] theorem stepM_fd (n_ : Option Nat) (x_ : O) (off_ : Nat) (d : Option Nat) (r : List CS) (ps : List (Nat × Nat)) : stepM P K X wm n fl tl Q (.fd n_ x_ off_) d r ps k ρ σ = holdM P K X wm n fl tl Q (kOp fl ρ σ (.fd n_ x_ off_)) d r ps k := (rfl)
@[simp] theorem stepM_ia (s_ : Nat) (x_ i_ : O) (d : Option Nat) (r : List CS) (ps : List (Nat × Nat)) : stepM P K X wm n fl tl Q (.ia s_ x_ i_) d r ps k ρ σ = holdM P K X wm n fl tl Q (kOp fl ρ σ (.ia s_ x_ i_)) d r ps k := (rfl)
@[simp] theorem stepM_iS (x_ i_ : O) (d : Option Nat) (r : List CS) (ps : List (Nat × Nat)) : stepM P K X wm n fl tl Q (.iS x_ i_) d r ps k ρ σ = holdM P K X wm n fl tl Q (kOp fl ρ σ (.iS x_ i_)) d r ps k := (rfl)
@[simp] theorem stepM_iA (n_ : Option Nat) (len_ s_ : Nat) (x_ i_ : O) (d : Option Nat) (r : List CS) (ps : List (Nat × Nat)) : stepM P K X wm n fl tl Q (.iA n_ len_ s_ x_ i_) d r ps k ρ σ = holdM P K X wm n fl tl Q (kOp fl ρ σ (.iA n_ len_ s_ x_ i_)) d r ps k := (rfl)
@[simp] theorem stepM_ex (x_ : O) (i_ : Nat) (d : Option Nat) (r : List CS) (ps : List (Nat × Nat)) : stepM P K X wm n fl tl Q (.ex x_ i_) d r ps k ρ σ = holdM P K X wm n fl tl Q (kOp fl ρ σ (.ex x_ i_)) d r ps k := (rfl)
@[simp] theorem stepM_le (sl_ : Bool) (x_ : O) (d : Option Nat) (r : List CS) (ps : List (Nat × Nat)) : stepM P K X wm n fl tl Q (.le sl_ x_) d r ps k ρ σ = holdM P K X wm n fl tl Q (kOp fl ρ σ (.le sl_ x_)) d r ps k := (rfl)
@[simp] theorem stepM_la (n_ : Nat) (d : Option Nat) (r : List CS) (ps : List (Nat × Nat)) : stepM P K X wm n fl tl Q (.la n_) d r ps k ρ σ = holdM P K X wm n fl tl Q (kOp fl ρ σ (.la n_)) d r ps k := (rfl)
@[simp] theorem stepM_ap (w_ : Bool) (size_ bytes_ : Nat) (s_ x_ : O) (d : Option Nat) (r : List CS) (ps : List (Nat × Nat)) : stepM P K X wm n fl tl Q (.ap w_ size_ bytes_ s_ x_) d r ps k ρ σ = holdM P K X wm n fl tl Q (kOp fl ρ σ (.ap w_ size_ bytes_ s_ x_)) d r ps k := (rfl)
@[simp] theorem stepM_mx (x_ y_ : O) (d : Option Nat) (r : List CS) (ps : List (Nat × Nat)) : stepM P K X wm n fl tl Q (.mx x_ y_) d r ps k ρ σ = holdM P K X wm n fl tl Q (kOp fl ρ σ (.mx x_ y_)) d r ps k := (rfl)
@[simp] theorem stepM_mn (x_ y_ : O) (d : Option Nat) (r : List CS) (ps : List (Nat × Nat)) : stepM P K X wm n fl tl Q (.mn x_ y_) d r ps k ρ σ = holdM P K X wm n fl tl Q (kOp fl ρ σ (.mn x_ y_)) d r ps k := (rfl)
@[simp] theorem stepM_mm  (d : Option Nat) (r : List CS) (ps : List (Nat × Nat)) : stepM P K X wm n fl tl Q .mm d r ps k ρ σ = holdM P K X wm n fl tl Q (kOp fl ρ σ .mm) d r ps k := (rfl)
@[simp] theorem stepM_lu (d_ : TypeDesc) (z_ : V) (x_ k_ : O) (ok_ : Bool) (d : Option Nat) (r : List CS) (ps : List (Nat × Nat)) : stepM P K X wm n fl tl Q (.lu d_ z_ x_ k_ ok_) d r ps k ρ σ = holdM P K X wm n fl tl Q (kOp fl ρ σ (.lu d_ z_ x_ k_ ok_)) d r ps k := (rfl)
@[simp] theorem stepM_mu (d_ : TypeDesc) (x_ k_ y_ : O) (d : Option Nat) (r : List CS) (ps : List (Nat × Nat)) : stepM P K X wm n fl tl Q (.mu d_ x_ k_ y_) d r ps k ρ σ = holdM P K X wm n fl tl Q (kOp fl ρ σ (.mu d_ x_ k_ y_)) d r ps k := (rfl)

/-- How a function ends. -/
def endK (res : List CR) (m : Nat) (v : V) (σ' : St) (ex : Ex) (ρ : VEnv) (σ1 : St) : Prop := match ex with
  | .exit _ => False
  | _ => Ends res m ρ σ1 v σ'
theorem H_callq {f : Nat} {q : Bool} {cf : CF} {fl : Nat} {args : List V} {σ : St} {v : V} {σ' : St} (h : Has P K f q cf) (hn : args.length ≤ cf.n) (hfl : fl ≤ σ.size)
    (hw : ∀ fl', fl ≤ fl' → fl' ≤ σ.size → goM P K X (K.wm f) cf.n fl' true (endK cf.res σ.size v σ') cf.code [] (fun t => args.getD t .undef) σ) : Big P K X (.call fl f args σ v σ') := by
  refine C_call h.code h.inn hn ?_
  rw [h.tl]
  refine WC_mono (goK_sound _ (hw (if K.quiet f then max fl σ.size else fl) (by split <;> omega) (by split <;> omega))) (fun ex ρ1 σ1 he => ?_)
  cases ex with
  | normal => exact ⟨.inl rfl, he⟩
  | exit k => exact he.elim
  | ret => exact ⟨.inr rfl, he⟩
theorem H_call {f : Nat} {cf : CF} {fl : Nat} {args : List V} {σ : St} {v : V} {σ' : St} (h : Has P K f false cf) (hn : args.length ≤ cf.n)
    (hw : goM P K X (K.wm f) cf.n fl true (endK cf.res σ.size v σ') cf.code [] (fun t => args.getD t .undef) σ) : Big P K X (.call fl f args σ v σ') := by
  refine C_call h.code h.inn hn ?_
  rw [h.quiet, h.tl]
  refine WC_mono (goK_sound _ hw) (fun ex ρ1 σ1 he => ?_)
  cases ex with
  | normal => exact ⟨.inl rfl, he⟩
  | exit k => exact he.elim
  | ret => exact ⟨.inr rfl, he⟩

@[simp] theorem endK_n (res m v σ') (ρ : VEnv) (σ : St) : endK res m v σ' .normal ρ σ = Ends res m ρ σ v σ' := (rfl)
@[simp] theorem endK_r (res m v σ') (ρ : VEnv) (σ : St) : endK res m v σ' .ret ρ σ = Ends res m ρ σ v σ' := (rfl)
@[simp] theorem updV_at (ρ : VEnv) (n m : Nat) (v : V) : updV ρ n v m = if m = n then v else ρ m := (rfl)

def ldO (n : Option Nat) (ρ : VEnv) (σ : St) (off : Nat) (w : Option VObj) : Option (V × VEnv × St) := match w with
  | some (.cells vs) => match asValK n vs off with
    | some v => some (v.strip, ρ, σ)
    | none => none
  | _ => none
def ldK (n : Option Nat) (ρ : VEnv) (σ : St) (x : V) : Option (V × VEnv × St) := match x with
  | .ptr o off => ldO n ρ σ off (σ.get o)
  | .ro vs off => (asValK n vs off).map fun v => (v.strip, ρ, σ)
  | _ => none
def ldP (fl : Nat) (n : Option Nat) (ρ : VEnv) (σ : St) (o off : Nat) (w : Option VObj) : Option (V × VEnv × St) := match w with
  | some (.cells vs) => match asValK n vs off with
    | some v => if fl ≤ o then some (v, ρ, σ.put o (.cells (stripAt vs off v.cells.length))) else none
    | none => none
  | _ => none
def ldT (fl : Nat) (n : Option Nat) (ρ : VEnv) (σ : St) (x : V) : Option (V × VEnv × St) := match x with
  | .ptr o off => ldP fl n ρ σ o off (σ.get o)
  | .ro vs off => (asValK n vs off).map fun v => (v.strip, ρ, σ)
  | _ => none
def ncK (ρ : VEnv) (σ : St) (x : V) : Option (V × VEnv × St) := match x with
  | .ptr o off => some (.ptr o off, ρ, σ)
  | .ro vs off => some (.ro vs off, ρ, σ)
  | .func f a b => some (.func f a b, ρ, σ)
  | _ => none
def faK (ρ : VEnv) (σ : St) (x : V) (k : Nat) : Option (V × VEnv × St) := match x with
  | .ptr o off => some (.ptr o (off + k), ρ, σ)
  | .ro vs off => some (.ro vs (off + k), ρ, σ)
  | _ => none
def leK (ρ : VEnv) (σ : St) (sl : Bool) (x : V) : Option (V × VEnv × St) := match sl, x with
  | false, .str s => some (.int .i64 s.length, ρ, σ)
  | true, .vec _ els => some (.int .i64 els.length, ρ, σ)
  | true, .sl _ _ len _ _ => some (.int .i64 len, ρ, σ)
  | _, _ => none
def stO (fl n : Nat) (σ : St) (o off : Nat) (g : V × VEnv) (w : Option VObj) : Option (V × VEnv × St) := match w with
  | some (.cells vs) =>
    if g.1.isVal = true ∧ n = g.1.cells.length ∧ off + g.1.cells.length ≤ vs.length ∧ fl ≤ o then
      some (.undef, g.2, σ.stow o (.cells (splice vs off g.1.cells)) g.1)
    else none
  | _ => none
def stK (fl n : Nat) (σ : St) (a : V) (g : V × VEnv) : Option (V × VEnv × St) := match a with
  | .ptr o off => stO fl n σ o off g (σ.get o)
  | _ => none
def exK' (ρ : VEnv) (σ : St) (x : V) (i : Nat) : Option (V × VEnv × St) := match x with
  | .tuple vs => match vs[i]? with | some v => some (v.strip, ρ, σ) | none => none
  | _ => none
@[simp] theorem asValK_n (vs : List V) (off : Nat) : asValK none vs off = vs[off]? := (rfl)
@[simp] theorem asValK_s (n : Nat) (vs : List V) (off : Nat) : asValK (some n) vs off = if off + n ≤ vs.length then some (.agg ((vs.drop off).take n)) else none := (rfl)
@[simp] theorem boolV_b (b : Bool) : boolV (.bool b) = some b := (rfl)
@[simp] theorem kOp_mvc (tk : Bool) (v : V) : kOp fl ρ σ (.mv tk (.c v)) = some (v, ρ, σ) := (rfl)
@[simp] theorem kOp_mvf (t : Nat) : kOp fl ρ σ (.mv false (.t t)) = some ((ρ t).strip, ρ, σ) := (rfl)
@[simp] theorem kOp_mvt (t : Nat) : kOp fl ρ σ (.mv true (.t t)) = some (ρ t, updV ρ t (ρ t).strip, σ) := (rfl)
@[simp] theorem kOp_pk (b x y : O) : kOp fl ρ σ (.pk b x y) = (match evalK ρ b with
    | .bool t => some (if t then evalKC ρ x else evalKC ρ y, ρ, σ)
    | _ => none) := (rfl)
@[simp] theorem kOp_nb (t u : TypeId) : kOp fl ρ σ (.nb t u) = (some (.ptr σ.size 0, ρ, σ.push (.bld t u []))) := (rfl)
@[simp] theorem kOp_al (z : List V) : kOp fl ρ σ (.al z) = (some (.ptr σ.size 0, ρ, σ.push (.cells z))) := (rfl)
@[simp] theorem kOp_bx (tk : Bool) (x : O) : kOp fl ρ σ (.bx tk x) = (if (grabK tk ρ x).1.isVal = true then some (.ptr σ.size 0, (grabK tk ρ x).2, σ.push (.cells (grabK tk ρ x).1.cells)) else none) := (rfl)
@[simp] theorem kOp_bd (tk : Bool) (z : List V) (ps : List (Nat × Nat × O)) : kOp fl ρ σ (.bd tk z ps) = ((fillK z (grabsK tk ρ ps).1).map fun cs => (.agg cs, (grabsK tk ρ ps).2, σ)) := (rfl)
@[simp] theorem kOp_bs (w : Bool) (n s : Nat) (z : List V) (ps : List (Nat × O)) : kOp fl ρ σ (.bs w n s z ps) = (match fillK ((List.replicate n z).flatten) (ps.map fun p => (p.1 * s, s, evalKC ρ p.2)) with
    | some cs => if cs.all V.isCell = true then (if w = true then some (.sl σ.size 0 n (some n) s, ρ, σ.push (.cells (cs.map V.strip1))) else some (.vec true (chunk s n cs), ρ, σ)) else none
    | none => none) := (rfl)
@[simp] theorem kOp_ldf (n : Option Nat) (x : O) : kOp fl ρ σ (.ld false n x) = ldK n ρ σ (evalK ρ x) := (rfl)
@[simp] theorem ldK_ptr (n : Option Nat) (o off : Nat) : ldK n ρ σ (.ptr o off) = ldO n ρ σ off (σ.get o) := (rfl)
@[simp] theorem ldK_ro (n : Option Nat) (vs : List V) (off : Nat) : ldK n ρ σ (.ro vs off) = (asValK n vs off).map fun v => (v.strip, ρ, σ) := (rfl)
@[simp] theorem ldO_some (n : Option Nat) (off : Nat) (vs : List V) : ldO n ρ σ off (some (.cells vs)) = (asValK n vs off).map fun v => (v.strip, ρ, σ) := by
  unfold ldO
  simp only
  cases asValK n vs off <;> rfl
@[simp] theorem kOp_ldt (n : Option Nat) (x : O) : kOp fl ρ σ (.ld true n x) = ldT fl n ρ σ (evalK ρ x) := (rfl)
@[simp] theorem ldT_ptr (n : Option Nat) (o off : Nat) : ldT fl n ρ σ (.ptr o off) = ldP fl n ρ σ o off (σ.get o) := (rfl)
@[simp] theorem ldT_ro (n : Option Nat) (vs : List V) (off : Nat) : ldT fl n ρ σ (.ro vs off) = (asValK n vs off).map fun v => (v.strip, ρ, σ) := (rfl)
@[simp] theorem ldP_some (n : Option Nat) (o off : Nat) (vs : List V) : ldP fl n ρ σ o off (some (.cells vs)) = (asValK n vs off).bind fun v => if fl ≤ o then some (v, ρ, σ.put o (.cells (stripAt vs off v.cells.length))) else none := by
  unfold ldP
  simp only
  cases asValK n vs off <;> rfl
@[simp] theorem kOp_st (tk : Bool) (n : Nat) (a x : O) : kOp fl ρ σ (.st tk n a x) = stK fl n σ (evalK ρ a) (grabK tk ρ x) := (rfl)
@[simp] theorem stK_ptr (n o off : Nat) (g : V × VEnv) : stK fl n σ (.ptr o off) g = stO fl n σ o off g (σ.get o) := (rfl)
@[simp] theorem stO_some (n o off : Nat) (v : V) (ρ : VEnv) (vs : List V) : stO fl n σ o off (v, ρ) (some (.cells vs)) = if v.isVal = true ∧ n = v.cells.length ∧ off + v.cells.length ≤ vs.length ∧ fl ≤ o then some (.undef, ρ, σ.stow o (.cells (splice vs off v.cells)) v) else none := (rfl)
@[simp] theorem kOp_nc (x : O) : kOp fl ρ σ (.nc x) = ncK ρ σ (evalKC ρ x) := (rfl)
@[simp] theorem ncK_ptr (o off : Nat) : ncK ρ σ (.ptr o off) = some (.ptr o off, ρ, σ) := (rfl)
@[simp] theorem ncK_ro (vs : List V) (off : Nat) : ncK ρ σ (.ro vs off) = some (.ro vs off, ρ, σ) := (rfl)
@[simp] theorem ncK_func (f : Nat) (a b : List V) : ncK ρ σ (.func f a b) = some (.func f a b, ρ, σ) := (rfl)
@[simp] theorem kOp_bo (op : BinOp) (q : Nat) (x y : O) : kOp fl ρ σ (.bo op q x y) = ((binK op q (evalK ρ x) (evalK ρ y)).map (one ρ σ)) := (rfl)
@[simp] theorem kOp_uo (op : UnOp) (x : O) : kOp fl ρ σ (.uo op x) = ((unV op (evalK ρ x)).map (one ρ σ)) := (rfl)
def ciK (k : IntKind) (ρ : VEnv) (σ : St) (x : V) : Option (V × VEnv × St) := match x with
  | .int _ n => ((pureOf (Conv.intToInt k n)).map ofValV).map (one ρ σ)
  | _ => none
@[simp] theorem kOp_ci (k : IntKind) (x : O) : kOp fl ρ σ (.ci k x) = ciK k ρ σ (evalK ρ x) := (rfl)
@[simp] theorem ciK_int (k k' : IntKind) (n : Int) : ciK k ρ σ (.int k' n) = some (.int k (k.wrap n), ρ, σ) := (rfl)
@[simp] theorem kOp_cs (x : O) : kOp fl ρ σ (.cs x) = (match evalK ρ x with
    | .str s => some (.str s, ρ, σ)
    | _ => none) := (rfl)
@[simp] theorem kOp_cb (x : O) : kOp fl ρ σ (.cb x) = (match evalK ρ x with
    | .str s => some (.vec (!s.isEmpty) (s.map fun c => [byteCellV c]), ρ, σ)
    | _ => none) := (rfl)
@[simp] theorem kOp_cc (x : O) : kOp fl ρ σ (.cc x) = (match evalK ρ x with
    | .vec _ els => ((unbytesV els).map V.str).map (one ρ σ)
    | _ => none) := (rfl)
@[simp] theorem kOp_mf (f : Nat) (a b : List O) : kOp fl ρ σ (.mf f a b) = (some (.func f (a.map (evalKC ρ)) (b.map (evalKC ρ)), ρ, σ)) := (rfl)
@[simp] theorem kOp_sS (x : O) (lo hi : Option O) : kOp fl ρ σ (.sS x lo hi) = (match evalK ρ x with
    | .str s => (cutStrV s (lo.map (evalK ρ)) (hi.map (evalK ρ))).map (one ρ σ)
    | _ => none) := (rfl)
@[simp] theorem kOp_sV (s : Nat) (x : O) (lo hi : Option O) : kOp fl ρ σ (.sV s x lo hi) = (match evalK ρ x with
    | .vec _ els => if els.all (fun x => decide (x.length = s)) = true then (cutV els (lo.map (evalK ρ)) (hi.map (evalK ρ))).map (one ρ σ) else none
    | .sl o off len cap esz => if s = esz then (cutSlV o off len cap esz (lo.map (evalK ρ)) (hi.map (evalK ρ))).map (one ρ σ) else none
    | _ => none) := (rfl)
@[simp] theorem kOp_fa (x : O) (k : Nat) : kOp fl ρ σ (.fa x k) = faK ρ σ (evalK ρ x) k := (rfl)
@[simp] theorem faK_ptr (o off k : Nat) : faK ρ σ (.ptr o off) k = some (.ptr o (off + k), ρ, σ) := (rfl)
@[simp] theorem faK_ro (vs : List V) (off k : Nat) : faK ρ σ (.ro vs off) k = some (.ro vs (off + k), ρ, σ) := (rfl)
@[simp] theorem kOp_fd (n : Option Nat) (x : O) (k : Nat) : kOp fl ρ σ (.fd n x k) = (match evalKC ρ x with
    | .agg vs => (asValK n vs k).map fun v => (v.strip, ρ, σ)
    | _ => none) := (rfl)
@[simp] theorem kOp_ia (s : Nat) (x i : O) : kOp fl ρ σ (.ia s x i) = (match evalK ρ x, natOfV (evalK ρ i) with
    | .vec _ els, some k => match els[k]? with
      | some el => if s = el.length then some (.ro el 0, ρ, σ) else none
      | none => none
    | .sl o off len _ esz, some k => if k < len ∧ s = esz then some (.ptr o (off + k * esz), ρ, σ) else none
    | _, _ => none) := (rfl)
@[simp] theorem kOp_iS (x i : O) : kOp fl ρ σ (.iS x i) = (match evalK ρ x, natOfV (evalK ρ i) with
    | .str s, some k => match s[k]? with | some b => some (.int .u8 b.toNat, ρ, σ) | none => none
    | _, _ => none) := (rfl)
@[simp] theorem kOp_iA (n : Option Nat) (len s : Nat) (x i : O) : kOp fl ρ σ (.iA n len s x i) = (match evalKC ρ x, natOfV (evalK ρ i) with
    | .agg vs, some k => if k < len then (asValK n vs (k * s)).map fun v => (v.strip, ρ, σ) else none
    | _, _ => none) := (rfl)
@[simp] theorem kOp_ex (x : O) (i : Nat) : kOp fl ρ σ (.ex x i) = exK' ρ σ (evalK ρ x) i := (rfl)
@[simp] theorem exK'_tuple (vs : List V) (i : Nat) : exK' ρ σ (.tuple vs) i = (vs[i]?).map fun v => (v.strip, ρ, σ) := by
  unfold exK'
  simp only
  cases vs[i]? <;> rfl
@[simp] theorem kOp_le (sl : Bool) (x : O) : kOp fl ρ σ (.le sl x) = leK ρ σ sl (evalK ρ x) := (rfl)
@[simp] theorem leK_str (s : List UInt8) : leK ρ σ false (.str s) = some (.int .i64 s.length, ρ, σ) := (rfl)
@[simp] theorem leK_vec (o : Bool) (s : List (List V)) : leK ρ σ true (.vec o s) = some (.int .i64 s.length, ρ, σ) := (rfl)
@[simp] theorem leK_sl (o off len : Nat) (cap : Option Nat) (s : Nat) : leK ρ σ true (.sl o off len cap s) = some (.int .i64 len, ρ, σ) := (rfl)
@[simp] theorem kOp_la (n : Nat) : kOp fl ρ σ (.la n) = (some (.int .i64 n, ρ, σ)) := (rfl)
@[simp] theorem kOp_ap (w : Bool) (size bytes : Nat) (s x : O) : kOp fl ρ σ (.ap w size bytes s x) = ((appendK w fl σ size bytes (grabK true ρ s).1 (evalK (grabK true ρ s).2 x)).map fun r => (r.1, (grabK true ρ s).2, r.2)) := (rfl)
@[simp] theorem kOp_mx (x y : O) : kOp fl ρ σ (.mx x y) = ((minmaxV true (evalK ρ x) (evalK ρ y)).map (one ρ σ)) := (rfl)
@[simp] theorem kOp_mn (x y : O) : kOp fl ρ σ (.mn x y) = ((minmaxV false (evalK ρ x) (evalK ρ y)).map (one ρ σ)) := (rfl)
@[simp] theorem kOp_mm  : kOp fl ρ σ .mm = (some (.map σ.size, ρ, σ.push (.amap []))) := (rfl)
@[simp] theorem kOp_lu (d : TypeDesc) (z : V) (x k : O) (ok : Bool) : kOp fl ρ σ (.lu d z x k ok) = ((lookupK σ d z (evalK ρ x) (evalK ρ k) ok).map (one ρ σ)) := (rfl)
@[simp] theorem kOp_mu (d : TypeDesc) (x k y : O) : kOp fl ρ σ (.mu d x k y) = ((updateK fl σ d (evalK ρ x) (evalK ρ k) (evalKC ρ y)).map (one ρ · .undef)) := (rfl)
@[simp] theorem grabK_c (tk : Bool) (ρ : VEnv) (v : V) : grabK tk ρ (.c v) = (v, ρ) := (rfl)
@[simp] theorem grabK_f (ρ : VEnv) (n : Nat) : grabK false ρ (.t n) = ((ρ n).strip, ρ) := (rfl)
@[simp] theorem grabK_t (ρ : VEnv) (n : Nat) : grabK true ρ (.t n) = (ρ n, updV ρ n (ρ n).strip) := (rfl)
@[simp] theorem evalK_t (ρ : VEnv) (n : Nat) : evalK ρ (.t n) = ρ n := (rfl)
@[simp] theorem evalK_c (ρ : VEnv) (v : V) : evalK ρ (.c v) = v := (rfl)
@[simp] theorem evalKC_eq (ρ : VEnv) (x : O) : evalKC ρ x = (evalK ρ x).strip := (rfl)
@[simp] theorem strip_int (k : IntKind) (n : Int) : (V.int k n).strip = .int k n := (rfl)
@[simp] theorem strip_bool (b : Bool) : (V.bool b).strip = .bool b := (rfl)
@[simp] theorem strip_str (s : List UInt8) : (V.str s).strip = .str s := (rfl)
@[simp] theorem strip_vec (o : Bool) (l : List (List V)) : (V.vec o l).strip = .vec false l := (rfl)
@[simp] theorem strip_ptrE (o off : Nat) : (V.ptr o off).strip = .ptr o off := (rfl)
@[simp] theorem strip_nilp : V.nilp.strip = .nilp := (rfl)
@[simp] theorem strip_nilf : V.nilf.strip = .nilf := (rfl)
@[simp] theorem strip_nilm : V.nilm.strip = .nilm := (rfl)
@[simp] theorem strip_func (f : Nat) (a b : List V) : (V.func f a b).strip = .func f a b := (rfl)
@[simp] theorem strip_map (o : Nat) : (V.map o).strip = .map o := (rfl)
@[simp] theorem strip_ro (l : List V) (n : Nat) : (V.ro l n).strip = .ro l n := (rfl)
@[simp] theorem strip_agg (l : List V) : (V.agg l).strip = .agg (l.map V.strip1) := (rfl)
@[simp] theorem strip_undef : V.undef.strip = .undef := (rfl)
@[simp] theorem strip1_int (k : IntKind) (n : Int) : (V.int k n).strip1 = .int k n := (rfl)
@[simp] theorem strip1_bool (b : Bool) : (V.bool b).strip1 = .bool b := (rfl)
@[simp] theorem strip1_str (s : List UInt8) : (V.str s).strip1 = .str s := (rfl)
@[simp] theorem strip1_vec (o : Bool) (l : List (List V)) : (V.vec o l).strip1 = .vec false l := (rfl)
@[simp] theorem strip1_ptr (o off : Nat) : (V.ptr o off).strip1 = .ptr o off := (rfl)
@[simp] theorem strip1_nilp : V.nilp.strip1 = .nilp := (rfl)
@[simp] theorem strip1_nilf : V.nilf.strip1 = .nilf := (rfl)
@[simp] theorem strip1_nilm : V.nilm.strip1 = .nilm := (rfl)
@[simp] theorem strip1_func (f : Nat) (a b : List V) : (V.func f a b).strip1 = .func f a b := (rfl)
@[simp] theorem strip1_map (o : Nat) : (V.map o).strip1 = .map o := (rfl)
theorem binK_int (op : BinOp) (q : Nat) (k k' : IntKind) (a b : Int) : binK op q (.int k a) (.int k' b) = (pureOf (binOp op 0 (.int k a) (.int k' b))).map ofValV := (rfl)
@[simp] theorem binK_eql (q : Nat) (k : IntKind) (a b : Int) : binK .eql q (.int k a) (.int k b) = some (.bool (decide (a = b))) := by
  rw [binK_int]; simp only [binOp, ne_eq, not_true_eq_false, if_false]; rfl
@[simp] theorem binK_neq (q : Nat) (k : IntKind) (a b : Int) : binK .neq q (.int k a) (.int k b) = some (.bool (!decide (a = b))) := by
  rw [binK_int]; simp only [binOp, ne_eq, not_true_eq_false, if_false]; rfl
@[simp] theorem binK_lss (q : Nat) (k : IntKind) (a b : Int) : binK .lss q (.int k a) (.int k b) = some (.bool (decide (a < b))) := by
  rw [binK_int]; simp only [binOp, ne_eq, not_true_eq_false, if_false]; rfl
@[simp] theorem binK_leq (q : Nat) (k : IntKind) (a b : Int) : binK .leq q (.int k a) (.int k b) = some (.bool (decide (a ≤ b))) := by
  rw [binK_int]; simp only [binOp, ne_eq, not_true_eq_false, if_false]; rfl
@[simp] theorem binK_gtr (q : Nat) (k : IntKind) (a b : Int) : binK .gtr q (.int k a) (.int k b) = some (.bool (decide (b < a))) := by
  rw [binK_int]; simp only [binOp, ne_eq, not_true_eq_false, if_false]; rfl
@[simp] theorem binK_geq (q : Nat) (k : IntKind) (a b : Int) : binK .geq q (.int k a) (.int k b) = some (.bool (decide (b ≤ a))) := by
  rw [binK_int]; simp only [binOp, ne_eq, not_true_eq_false, if_false]; rfl
@[simp] theorem binK_add (q : Nat) (k : IntKind) (a b : Int) : binK .add q (.int k a) (.int k b) = some (.int k (k.wrap (a + b))) := by
  rw [binK_int]; simp only [binOp, ne_eq, not_true_eq_false, if_false]; rfl
@[simp] theorem binK_sub (q : Nat) (k : IntKind) (a b : Int) : binK .sub q (.int k a) (.int k b) = some (.int k (k.wrap (a - b))) := by
  rw [binK_int]; simp only [binOp, ne_eq, not_true_eq_false, if_false]; rfl
@[simp] theorem binK_mul (q : Nat) (k : IntKind) (a b : Int) : binK .mul q (.int k a) (.int k b) = some (.int k (k.wrap (a * b))) := by
  rw [binK_int]; simp only [binOp, ne_eq, not_true_eq_false, if_false]; rfl
@[simp] theorem binK_seql (q : Nat) (a b : List UInt8) : binK .eql q (.str a) (.str b) = some (.bool (a == b)) := (rfl)
@[simp] theorem binK_sneq (q : Nat) (a b : List UInt8) : binK .neq q (.str a) (.str b) = some (.bool !(a == b)) := (rfl)
@[simp] theorem binK_slss (q : Nat) (a b : List UInt8) : binK .lss q (.str a) (.str b) = some (.bool (Op.bytesLess a b)) := (rfl)
theorem binK_sadd (q : Nat) (a b : List UInt8) (h : ((a.length + b.length : Nat) : Int) ≤ IntKind.i64.max) : binK .add q (.str a) (.str b) = some (.str (a ++ b)) := by
  show (strOp .add a b).map ofAV = _
  unfold strOp
  rw [if_pos h]; rfl
@[simp] theorem binK_saddS (q : Nat) {a b : List UInt8} (h : a.length + b.length ≤ 33554432) : binK .add q (.str a) (.str b) = some (.str (a ++ b)) := binK_sadd q a b (by show (_ : Int) ≤ 9223372036854775807; omega)
@[simp] theorem binK_peql (k l : IntKind) (a b c d : Int) : binK .eql 4 (.agg [.int k a, .int l c]) (.agg [.int k b, .int l d]) = some (.bool (a == b && c == d)) := by
  show (if k = k ∧ l = l ∧ 4 = 4 then eqResV .eql (some (a == b && c == d)) else none) = _
  rw [if_pos ⟨rfl, rfl, rfl⟩]; rfl
@[simp] theorem binK_pneq (k l : IntKind) (a b c d : Int) : binK .neq 4 (.agg [.int k a, .int l c]) (.agg [.int k b, .int l d]) = some (.bool !(a == b && c == d)) := by
  show (if k = k ∧ l = l ∧ 4 = 4 then eqResV .neq (some (a == b && c == d)) else none) = _
  rw [if_pos ⟨rfl, rfl, rfl⟩]; rfl
@[simp] theorem binK_beql (a b : Bool) : binK .eql 3 (.bool a) (.bool b) = some (.bool (a == b)) := (rfl)
@[simp] theorem binK_bneq (a b : Bool) : binK .neq 3 (.bool a) (.bool b) = some (.bool !(a == b)) := (rfl)
theorem wrap_i64 {n : Int} (h1 : -9223372036854775808 ≤ n) (h2 : n < 9223372036854775808) : IntKind.i64.wrap n = n := by
  simp only [IntKind.wrap, IntKind.bits, IntKind.signed, Bool.true_and, Nat.reduceSub, Int.reducePow, decide_eq_true_eq, ge_iff_le]
  split <;> omega
theorem wrap_u8 {n : Int} (h1 : 0 ≤ n) (h2 : n < 256) : IntKind.u8.wrap n = n := by
  simp only [IntKind.wrap, IntKind.bits, IntKind.signed, Bool.false_and, Bool.false_eq_true, if_false]
  omega
@[simp] theorem unV_not (b : Bool) : unV .not (.bool b) = some (.bool !b) := (rfl)
@[simp] theorem one_eq (ρ : VEnv) (σ : St) (v : V) : one ρ σ v = (v, ρ, σ) := (rfl)
@[simp] theorem natOfV_int (k : IntKind) (n : Nat) : natOfV (.int k n) = some n := by simp [natOfV]
@[simp] theorem natOfV_zero (k : IntKind) : natOfV (.int k 0) = some 0 := (rfl)
@[simp] theorem natOfV_one (k : IntKind) : natOfV (.int k 1) = some 1 := (rfl)
theorem Ends_of {res : List CR} {n : Nat} {ρ : VEnv} {σ1 : St} {v : V} {σ' : St} {l : List V} (h : mapO (resK σ1 ρ) res = some l) (h2 : callEnd n (retK res l) σ1 = (v, σ')) : Ends res n ρ σ1 v σ' := ⟨l, h, h2⟩
theorem Ends_iff {res : List CR} {n : Nat} {ρ : VEnv} {σ1 : St} {v : V} {σ' : St} {l : List V} (h : mapO (resK σ1 ρ) res = some l) : Ends res n ρ σ1 v σ' = (callEnd n (retK res l) σ1 = (v, σ')) := by
  apply propext
  constructor
  · rintro ⟨l', h1, h2⟩
    rw [h] at h1; cases h1; exact h2
  · exact fun h2 => ⟨l, h, h2⟩
def endM (res : List CR) (l : Option (List V)) (n : Nat) (σ1 : St) (v : V) (σ' : St) : Prop := match l with
  | some l => callEnd n (retK res l) σ1 = (v, σ')
  | none => False
@[simp] theorem Ends_M (res : List CR) (n : Nat) (ρ : VEnv) (σ1 : St) (v : V) (σ' : St) : Ends res n ρ σ1 v σ' = endM res (mapO (resK σ1 ρ) res) n σ1 v σ' := by
  cases h : mapO (resK σ1 ρ) res with
  | none =>
    apply propext
    exact ⟨fun ⟨l, h1, _⟩ => (by rw [h] at h1; cases h1), fun (q : False) => q.elim⟩
  | some l => exact Ends_iff h
@[simp] theorem endM_some (res : List CR) (l : List V) (n : Nat) (σ1 : St) (v : V) (σ' : St) : endM res (some l) n σ1 v σ' = (callEnd n (retK res l) σ1 = (v, σ')) := (rfl)
@[simp] theorem mapO_nil {α β : Type} (f : α → Option β) : mapO f [] = some [] := (rfl)
def consO {β : Type} (x : Option β) (l : Option (List β)) : Option (List β) := match x, l with
  | some y, some l => some (y :: l)
  | _, _ => none
@[simp] theorem consO_some {β : Type} (x : β) (l : List β) : consO (some x) (some l) = some (x :: l) := (rfl)
@[simp] theorem mapO_cons {α β : Type} (f : α → Option β) (x : α) (l : List α) : mapO f (x :: l) = consO (f x) (mapO f l) := (rfl)
@[simp] theorem resK_t (n : Nat) : resK σ ρ (.t n) = some (ρ n) := (rfl)
def resO (n : Option Nat) (off : Nat) (w : Option VObj) : Option V := match w with
  | some (.cells vs) => asValK n vs off
  | _ => none
def resP (n : Option Nat) (σ : St) (x : V) : Option V := match x with
  | .ptr o off => match σ.get o with
    | some (.cells vs) => asValK n vs off
    | _ => none
  | _ => none
@[simp] theorem resK_c (a : Nat) (n : Option Nat) : resK σ ρ (.c a n) = resP n σ (ρ a) := (rfl)
@[simp] theorem resP_ptr (n : Option Nat) (o off : Nat) : resP n σ (.ptr o off) = resO n off (σ.get o) := (rfl)
@[simp] theorem resO_some (n : Option Nat) (off : Nat) (vs : List V) : resO n off (some (.cells vs)) = asValK n vs off := (rfl)
@[simp] theorem retK_t (n : Nat) (v : V) : retK [.t n] [v] = v.keep := (rfl)
@[simp] theorem retK_c (a : Nat) (n : Option Nat) (v : V) : retK [.c a n] [v] = v.stripAll := (rfl)
@[simp] theorem retK_nil : retK [] [] = .tuple [] := (rfl)
@[simp] theorem retK_two (a b : CR) (r : List CR) (v w : V) (l : List V) : retK (a :: b :: r) (v :: w :: l) = .tuple ((v :: w :: l).map V.strip) := by cases a <;> rfl
@[simp] theorem keep_vec (o : Bool) (l : List (List V)) : (V.vec o l).keep = .vec o l := (rfl)
@[simp] theorem keep_int (k : IntKind) (n : Int) : (V.int k n).keep = .int k n := (rfl)
@[simp] theorem keep_bool (b : Bool) : (V.bool b).keep = .bool b := (rfl)
@[simp] theorem keep_str (s : List UInt8) : (V.str s).keep = .str s := (rfl)
@[simp] theorem keep_agg (l : List V) : (V.agg l).keep = .agg (l.map V.strip1) := (rfl)
@[simp] theorem keep_ptr (o n : Nat) : (V.ptr o n).keep = .ptr o n := (rfl)
@[simp] theorem keep_map (o : Nat) : (V.map o).keep = .map o := (rfl)
@[simp] theorem keep_nilp : V.nilp.keep = .nilp := (rfl)
@[simp] theorem keep_nilm : V.nilm.keep = .nilm := (rfl)
@[simp] theorem keep_func (f : Nat) (a b : List V) : (V.func f a b).keep = .func f a b := (rfl)
@[simp] theorem keep_undef : V.undef.keep = .undef := (rfl)
@[simp] theorem oneOrAllV_one (v : V) : oneOrAllV [v] = v := (rfl)
@[simp] theorem oneOrAllV_nil : oneOrAllV [] = .tuple [] := (rfl)
@[simp] theorem oneOrAllV_two (v w : V) (l : List V) : oneOrAllV (v :: w :: l) = .tuple (v :: w :: l) := (rfl)
/-- A call whose end is told by what it is like. -/
def endE (res : List CR) (m : Nat) (R : V → St → Prop) (ex : Ex) (ρ : VEnv) (σ1 : St) : Prop := match ex with
  | .exit _ => False
  | _ => ∃ l, mapO (resK σ1 ρ) res = some l ∧ R (callEnd m (retK res l) σ1).1 (callEnd m (retK res l) σ1).2
def endME (res : List CR) (l : Option (List V)) (m : Nat) (R : V → St → Prop) (σ1 : St) : Prop := match l with
  | some l => R (callEnd m (retK res l) σ1).1 (callEnd m (retK res l) σ1).2
  | none => False
theorem endE_M (res : List CR) (m : Nat) (R : V → St → Prop) (ρ : VEnv) (σ1 : St) : (∃ l, mapO (resK σ1 ρ) res = some l ∧ R (callEnd m (retK res l) σ1).1 (callEnd m (retK res l) σ1).2) = endME res (mapO (resK σ1 ρ) res) m R σ1 := by
  apply propext
  cases mapO (resK σ1 ρ) res with
  | none => exact ⟨fun ⟨l, h, _⟩ => (by cases h), fun (h : False) => h.elim⟩
  | some l => exact ⟨fun ⟨l', h, q⟩ => (by cases h; exact q), fun q => ⟨l, rfl, q⟩⟩
@[simp] theorem endE_n (res : List CR) (m : Nat) (R : V → St → Prop) (ρ : VEnv) (σ1 : St) : endE res m R .normal ρ σ1 = endME res (mapO (resK σ1 ρ) res) m R σ1 := endE_M _ _ _ _ _
@[simp] theorem endE_r (res : List CR) (m : Nat) (R : V → St → Prop) (ρ : VEnv) (σ1 : St) : endE res m R .ret ρ σ1 = endME res (mapO (resK σ1 ρ) res) m R σ1 := endE_M _ _ _ _ _
@[simp] theorem endME_some (res : List CR) (l : List V) (m : Nat) (R : V → St → Prop) (σ1 : St) : endME res (some l) m R σ1 = R (callEnd m (retK res l) σ1).1 (callEnd m (retK res l) σ1).2 := (rfl)
theorem C_callE {fl f : Nat} {cf : CF} {args : List V} {R : V → St → Prop} (hf : readyF P K f = some cf) (hi : K.inn f = true) (hn : args.length ≤ cf.n)
    (h : WC P K X (K.wm f) cf.n (if K.quiet f then max fl σ.size else fl) (K.tl f) cf.code (fun t => args.getD t .undef) σ (endE cf.res σ.size R)) : ∃ v σ', R v σ' ∧ Big P K X (.call fl f args σ v σ') := by
  unfold readyF at hf
  split at hf
  · rename_i fn hfn
    split at hf
    · rename_i c hc
      split at hf
      · rename_i k r hk hr
        simp only [Option.some.injEq] at hf
        subst hf
        obtain ⟨ex, ρ1, σ1, hb, hq⟩ := h c hk
        have hex : ex = .normal ∨ ex = .ret := by
          cases ex with
          | normal => exact .inl rfl
          | ret => exact .inr rfl
          | exit i => exact hq.elim
        have hq' : ∃ l, mapO (resK σ1 ρ1) r = some l ∧ R (callEnd σ.size (retK r l) σ1).1 (callEnd σ.size (retK r l) σ1).2 := by
          rcases hex with rfl | rfl <;> exact hq
        obtain ⟨l, hl, hR⟩ := hq'
        have hbig := Big.body (K := K) (X := X) hi hfn hc hn hb hex (res_ready _ _ _ hr hl)
        rw [ret_ready _ _ _ hr] at hbig
        exact ⟨_, _, hR, hbig⟩
      · cases hf
    · cases hf
  · cases hf
theorem H_callE {f : Nat} {cf : CF} {fl : Nat} {args : List V} {σ : St} {R : V → St → Prop} (h : Has P K f false cf) (hn : args.length ≤ cf.n)
    (hw : goM P K X (K.wm f) cf.n fl true (endE cf.res σ.size R) cf.code [] (fun t => args.getD t .undef) σ) : ∃ v σ', R v σ' ∧ Big P K X (.call fl f args σ v σ') := by
  refine C_callE h.code h.inn hn ?_
  rw [h.quiet, h.tl]
  exact goK_sound _ hw
/-- Nothing new is held. -/
theorem callEnd_same {σ : St} {v : V} {n : Nat} (hn : n = σ.size) : callEnd n v σ = (v, σ) := by
  unfold callEnd
  split
  · rw [trim_self _ (by omega)]
  · rfl
@[simp] theorem callEnd_self (σ : St) (v : V) : callEnd σ.size v σ = (v, σ) := callEnd_same rfl
@[simp] theorem stripAll_int (k : IntKind) (n : Int) : (V.int k n).stripAll = .int k n := (rfl)
@[simp] theorem stripAll_bool (b : Bool) : (V.bool b).stripAll = .bool b := (rfl)
@[simp] theorem stripAll_str (s : List UInt8) : (V.str s).stripAll = .str s := (rfl)
@[simp] theorem stripAll_vec (o : Bool) (l : List (List V)) : (V.vec o l).stripAll = .vec false l := (rfl)
@[simp] theorem stripAll_agg (l : List V) : (V.agg l).stripAll = .agg (l.map V.strip1) := (rfl)
@[simp] theorem stripAll_ptr (o n : Nat) : (V.ptr o n).stripAll = .ptr o n := (rfl)
@[simp] theorem stripAll_map (o : Nat) : (V.map o).stripAll = .map o := (rfl)
@[simp] theorem stripAll_nilp : V.nilp.stripAll = .nilp := (rfl)
@[simp] theorem stripAll_nilm : V.nilm.stripAll = .nilm := (rfl)
@[simp] theorem stripAll_func (f : Nat) (a b : List V) : (V.func f a b).stripAll = .func f a b := (rfl)
@[simp] theorem stripAll_tuple (l : List V) : (V.tuple l).stripAll = .tuple (l.map V.strip) := (rfl)
@[simp] theorem stripAll_undef : V.undef.stripAll = .undef := (rfl)
@[simp] theorem callEnd_lo {σ : St} {v : V} {n : Nat} (hl : v.low n = true) (hp : σ.pin ≤ n) : callEnd n v σ = (v, σ.trim n) := by
  unfold callEnd
  rw [Nat.max_eq_left hp, if_pos hl]
@[simp] theorem iterEnd_lo {σ : St} {ρ : VEnv} {n : Nat} (hp : σ.pin ≤ n) : iterEnd true n ρ σ = (sweep n ρ, σ.trim n) := by
  unfold iterEnd
  rw [Nat.max_eq_left hp, if_pos rfl]
@[simp] theorem sweep_at {ρ : VEnv} {n t : Nat} (h : (ρ t).low n = true) : sweep n ρ t = ρ t := if_pos h
@[simp] theorem stow_low {σ : St} {o : Nat} {x : VObj} {v : V} (h : v.low (o + 1) = true) : σ.stow o x v = σ.put o x := store_low σ x h
@[simp] theorem get_put_at (σ : St) (o : Nat) (x : VObj) : (σ.put o x).get o = (σ.get o).map fun _ => x := by
  cases h : σ.get o with
  | some y => rw [get_put σ h, if_pos rfl]; rfl
  | none =>
    show getO (putO σ.objs o x) o = none
    rw [getO_putO, if_pos rfl]
    have : getO σ.objs o = none := h
    rw [this]; rfl
@[simp] theorem put_push (σ : St) (x y : VObj) (o : Nat) : (σ.push x).put o y = if o = σ.size then σ.push y else (σ.put o y).push x := by
  split
  · rename_i h; rw [h, put_push_self]
  · rename_i h; exact put_push_ne σ x y h
@[simp] theorem boundV_some (v : V) (d : Nat) : boundV (some v) d = natOfV v := (rfl)
@[simp] theorem boundV_none (d : Nat) : boundV none d = some d := (rfl)
def cutN (els : List (List V)) (h l : Option Nat) : Option V := match h, l with
  | some h, some l => if h ≤ els.length ∧ l ≤ h then some (.vec false ((els.drop l).take (h - l))) else none
  | _, _ => none
@[simp] theorem cutV_N (els : List (List V)) (lo hi : Option V) : cutV els lo hi = cutN els (boundV hi els.length) (boundV lo 0) := (rfl)
@[simp] theorem cutN_some (els : List (List V)) (h l : Nat) : cutN els (some h) (some l) = if h ≤ els.length ∧ l ≤ h then some (.vec false ((els.drop l).take (h - l))) else none := (rfl)
def cutSN (s : List UInt8) (h l : Option Nat) : Option V := match h, l with
  | some h, some l => if h ≤ s.length ∧ l ≤ h then some (.str ((s.drop l).take (h - l))) else none
  | _, _ => none
@[simp] theorem cutStrV_N (s : List UInt8) (lo hi : Option V) : cutStrV s lo hi = cutSN s (boundV hi s.length) (boundV lo 0) := (rfl)
@[simp] theorem cutSN_some (s : List UInt8) (h l : Nat) : cutSN s (some h) (some l) = if h ≤ s.length ∧ l ≤ h then some (.str ((s.drop l).take (h - l))) else none := (rfl)
@[simp] theorem take_drop_all {α : Type} (l : List α) (n : Nat) : (l.drop n).take (l.length - n) = l.drop n := List.take_of_length_le (by simp)
@[simp low] theorem natOfV_lit (k : IntKind) (n : Int) : natOfV (.int k n) = if 0 ≤ n then some n.toNat else none := (rfl)
@[simp] theorem take_map_len {α β : Type} (f : α → β) (l : List α) : (l.map f).take l.length = l.map f := List.take_of_length_le (by simp)
@[simp] theorem lowss_map {α : Type} {f : α → List V} {n : Nat} (h : ∀ a, V.lows n (f a) = true) : ∀ (l : List α), V.lowss n (l.map f) = true
  | [] => rfl
  | a :: l => by simp only [List.map_cons, V.lowss, h a, lowss_map h l, Bool.and_self]
@[simp] theorem lowss_append (n : Nat) : ∀ (a b : List (List V)), V.lowss n (a ++ b) = (V.lowss n a && V.lowss n b)
  | [], b => rfl
  | x :: a, b => by simp only [List.cons_append, V.lowss, lowss_append n a b, Bool.and_assoc]
@[simp] theorem lows_append (n : Nat) : ∀ (a b : List V), V.lows n (a ++ b) = (V.lows n a && V.lows n b)
  | [], b => rfl
  | x :: a, b => by simp only [List.cons_append, V.lows, lows_append n a b, Bool.and_assoc]
@[simp] theorem lows_map {α : Type} {f : α → V} {n : Nat} (h : ∀ a, V.low n (f a) = true) : ∀ (l : List α), V.lows n (l.map f) = true
  | [] => rfl
  | a :: l => by simp only [List.map_cons, V.lows, h a, lows_map h l, Bool.and_self]
@[simp] theorem isVal_int (k : IntKind) (m : Int) : (V.int k m).isVal = true := (rfl)
@[simp] theorem isVal_bool (b : Bool) : (V.bool b).isVal = true := (rfl)
@[simp] theorem isVal_str (b : List UInt8) : (V.str b).isVal = true := (rfl)
@[simp] theorem isVal_nilp : V.nilp.isVal = true := (rfl)
@[simp] theorem isVal_nilf : V.nilf.isVal = true := (rfl)
@[simp] theorem isVal_nilm : V.nilm.isVal = true := (rfl)
@[simp] theorem isVal_ptr (o m : Nat) : (V.ptr o m).isVal = true := (rfl)
@[simp] theorem isVal_map (o : Nat) : (V.map o).isVal = true := (rfl)
@[simp] theorem isVal_vec (b : Bool) (l : List (List V)) : (V.vec b l).isVal = true := (rfl)
@[simp] theorem isVal_func (f : Nat) (a b : List V) : (V.func f a b).isVal = true := (rfl)
@[simp] theorem isVal_agg (l : List V) : (V.agg l).isVal = l.all V.isCell := (rfl)
@[simp] theorem isCell_int (k : IntKind) (m : Int) : (V.int k m).isCell = true := (rfl)
@[simp] theorem isCell_bool (b : Bool) : (V.bool b).isCell = true := (rfl)
@[simp] theorem isCell_str (b : List UInt8) : (V.str b).isCell = true := (rfl)
@[simp] theorem isCell_nilp : V.nilp.isCell = true := (rfl)
@[simp] theorem isCell_nilf : V.nilf.isCell = true := (rfl)
@[simp] theorem isCell_nilm : V.nilm.isCell = true := (rfl)
@[simp] theorem isCell_ptr (o m : Nat) : (V.ptr o m).isCell = true := (rfl)
@[simp] theorem isCell_map (o : Nat) : (V.map o).isCell = true := (rfl)
@[simp] theorem isCell_vec (b : Bool) (l : List (List V)) : (V.vec b l).isCell = true := (rfl)
@[simp] theorem isCell_func (f : Nat) (a b : List V) : (V.func f a b).isCell = true := (rfl)
@[simp] theorem cells_int (k : IntKind) (m : Int) : (V.int k m).cells = [.int k m] := (rfl)
@[simp] theorem cells_bool (b : Bool) : (V.bool b).cells = [.bool b] := (rfl)
@[simp] theorem cells_str (b : List UInt8) : (V.str b).cells = [.str b] := (rfl)
@[simp] theorem cells_nilp : V.nilp.cells = [.nilp] := (rfl)
@[simp] theorem cells_nilf : V.nilf.cells = [.nilf] := (rfl)
@[simp] theorem cells_nilm : V.nilm.cells = [.nilm] := (rfl)
@[simp] theorem cells_ptr (o m : Nat) : (V.ptr o m).cells = [.ptr o m] := (rfl)
@[simp] theorem cells_map (o : Nat) : (V.map o).cells = [.map o] := (rfl)
@[simp] theorem cells_vec (b : Bool) (l : List (List V)) : (V.vec b l).cells = [.vec b l] := (rfl)
@[simp] theorem cells_func (f : Nat) (a b : List V) : (V.func f a b).cells = [.func f a b] := (rfl)
@[simp] theorem cells_agg (l : List V) : (V.agg l).cells = l := (rfl)
def apartV (x y : V) : Bool := match x, y with
  | .ptr o _, .ptr o' _ => !(o == o')
  | _, _ => false
@[simp] theorem apartB_V (ρ : VEnv) (a b : Nat) : apartB ρ (a, b) = apartV (ρ a) (ρ b) := (rfl)
@[simp] theorem apartV_ptr (o o' m m' : Nat) : apartV (.ptr o m) (.ptr o' m') = !(o == o') := (rfl)
@[simp] theorem low_int (n : Nat) (k : IntKind) (m : Int) : (V.int k m).low n = true := (rfl)
@[simp] theorem low_bool (n : Nat) (b : Bool) : (V.bool b).low n = true := (rfl)
@[simp] theorem low_str (n : Nat) (b : List UInt8) : (V.str b).low n = true := (rfl)
@[simp] theorem low_nilp (n : Nat) : V.nilp.low n = true := (rfl)
@[simp] theorem low_nilf (n : Nat) : V.nilf.low n = true := (rfl)
@[simp] theorem low_nilm (n : Nat) : V.nilm.low n = true := (rfl)
@[simp] theorem low_undef (n : Nat) : V.undef.low n = true := (rfl)
@[simp] theorem low_ptr (n o m : Nat) : (V.ptr o m).low n = decide (o < n) := (rfl)
@[simp] theorem low_map (n o : Nat) : (V.map o).low n = decide (o < n) := (rfl)
@[simp] theorem low_agg (n : Nat) (l : List V) : (V.agg l).low n = V.lows n l := (rfl)
@[simp] theorem low_tuple (n : Nat) (l : List V) : (V.tuple l).low n = V.lows n l := (rfl)
@[simp] theorem low_ro (n m : Nat) (l : List V) : (V.ro l m).low n = V.lows n l := (rfl)
@[simp] theorem low_vec (n : Nat) (b : Bool) (l : List (List V)) : (V.vec b l).low n = V.lowss n l := (rfl)
@[simp] theorem low_func (n f : Nat) (a b : List V) : (V.func f a b).low n = (V.lows n a && V.lows n b) := (rfl)
@[simp] theorem lows_nil (n : Nat) : V.lows n [] = true := (rfl)
@[simp] theorem lows_cons (n : Nat) (v : V) (l : List V) : V.lows n (v :: l) = (v.low n && V.lows n l) := (rfl)
@[simp] theorem lowss_nil (n : Nat) : V.lowss n [] = true := (rfl)
@[simp] theorem lowss_cons (n : Nat) (v : List V) (l : List (List V)) : V.lowss n (v :: l) = (V.lows n v && V.lowss n l) := (rfl)
@[simp] theorem fillK_nil (cells : List V) : fillK cells [] = some cells := (rfl)
@[simp] theorem fillK_cons (cells : List V) (off size : Nat) (v : V) (r : List (Nat × Nat × V)) : fillK cells ((off, size, v) :: r) = if v.isVal = true ∧ v.cells.length = size ∧ off + size ≤ cells.length then fillK (splice cells off v.cells) r else none := (rfl)
@[simp] theorem chunk_zero (s : Nat) (l : List V) : chunk s 0 l = [] := (rfl)
@[simp] theorem chunk_succ (s n : Nat) (l : List V) : chunk s (n + 1) l = l.take s :: chunk s n (l.drop s) := (rfl)
@[simp] theorem grabsK_nil (tk : Bool) (ρ : VEnv) : grabsK tk ρ [] = ([], ρ) := (rfl)
@[simp] theorem grabsK_cons (tk : Bool) (ρ : VEnv) (i s : Nat) (x : O) (r : List (Nat × Nat × O)) : grabsK tk ρ ((i, s, x) :: r) = ((i, s, (grabK tk ρ x).1) :: (grabsK tk (grabK tk ρ x).2 r).1, (grabsK tk (grabK tk ρ x).2 r).2) := (rfl)
def appV (σ : St) (size bytes : Nat) (own : Bool) (els : List (List V)) (new : Option (List (List V))) : Option (V × St) := match new with
  | some new => if new.isEmpty = true then some (.vec own els, σ) else if fits bytes (els.length + new.length) ∧ own = true ∧ els.all (fun e => decide (e.length = size)) = true then some (.vec true (els ++ new), σ) else none
  | none => none
@[simp] theorem appendK_vec (fl : Nat) (σ : St) (size bytes : Nat) (own : Bool) (els : List (List V)) (x : V) : appendK false fl σ size bytes (.vec own els) x = appV σ size bytes own els (srcV σ size x) := by
  unfold appendK appV
  cases srcV σ size x with
  | none => rfl
  | some new => simp
@[simp] theorem appV_some (σ : St) (size bytes : Nat) (own : Bool) (els : List (List V)) (new : List (List V)) : appV σ size bytes own els (some new) = if new.isEmpty = true then some (.vec own els, σ) else if fits bytes (els.length + new.length) ∧ own = true ∧ els.all (fun e => decide (e.length = size)) = true then some (.vec true (els ++ new), σ) else none := (rfl)
@[simp high] theorem appV_own {σ : St} {size bytes : Nat} {els new : List (List V)} (hf : fits bytes (els.length + new.length)) (ha : els.all (fun e => decide (e.length = size)) = true) : appV σ size bytes true els (some new) = some (.vec true (els ++ new), σ) := by
  rw [appV_some]
  split
  · rename_i h
    rw [List.isEmpty_iff] at h
    subst h
    rw [List.append_nil]
  · rw [if_pos ⟨hf, rfl, ha⟩]
@[simp] theorem srcV_vec (σ : St) (size : Nat) (own : Bool) (els : List (List V)) : srcV σ size (.vec own els) = if els.all (fun e => decide (e.length = size)) = true then some els else none := (rfl)
@[simp] theorem srcV_str (σ : St) (size : Nat) (s : List UInt8) : srcV σ size (.str s) = if size = 1 then some (s.map fun c => [byteCellV c]) else none := (rfl)
@[simp] theorem fits_le {b n : Nat} (hn : n ≤ 33554432) (hb : b ≤ 4096) : fits b n := by
  unfold fits
  have : n * b ≤ 33554432 * 4096 := Nat.mul_le_mul hn hb
  omega
/-- Where an object stands among the new ones. -/
theorem near {fl x : Nat} {σ : St} (h : fl ≤ x) (hx : x < σ.size) : x ≠ σ.size ∧ x ≠ σ.size + 1 ∧ x ≠ σ.size + 1 + 1 ∧ x ≠ σ.size + 1 + 1 + 1 ∧ σ.size ≠ x ∧ σ.size + 1 ≠ x ∧ fl ≤ x ∧ fl ≤ σ.size ∧ fl ≤ σ.size + 1 ∧ fl ≤ σ.size + 1 + 1 ∧ fl ≤ σ.size + 1 + 1 + 1 ∧ x < σ.size ∧ x < σ.size + 1 ∧ x < σ.size + 1 + 1 ∧ x < σ.size + 1 + 1 + 1 := by omega
@[simp] theorem le_add2 (n : Nat) : n ≤ n + 1 + 1 := by omega
@[simp] theorem le_add3 (n : Nat) : n ≤ n + 1 + 1 + 1 := by omega
@[simp] theorem le_add4 (n : Nat) : n ≤ n + 1 + 1 + 1 + 1 := by omega
@[simp] theorem lt_add2 (n : Nat) : n < n + 1 + 1 := by omega
@[simp] theorem lt_add3 (n : Nat) : n < n + 1 + 1 + 1 := by omega
@[simp] theorem lt_add4 (n : Nat) : n < n + 1 + 1 + 1 + 1 := by omega
@[simp] theorem ne_add2 (n : Nat) : (n = n + 1 + 1) = False := by simp; omega
@[simp] theorem ne_add3 (n : Nat) : (n = n + 1 + 1 + 1) = False := by simp; omega
@[simp] theorem ne_add4 (n : Nat) : (n = n + 1 + 1 + 1 + 1) = False := by simp; omega
@[simp] theorem add2_ne (n : Nat) : (n + 1 + 1 = n) = False := by simp; omega
@[simp] theorem add3_ne (n : Nat) : (n + 1 + 1 + 1 = n) = False := by simp; omega
theorem pinned {σ : St} (h : σ.pin ≤ σ.size) : σ.pin ≤ σ.size ∧ σ.pin ≤ σ.size + 1 ∧ σ.pin ≤ σ.size + 1 + 1 ∧ σ.pin ≤ σ.size + 1 + 1 + 1 := by omega
theorem nearq {fl : Nat} {σ : St} (h : fl ≤ σ.size) : fl ≤ σ.size ∧ fl ≤ σ.size + 1 ∧ fl ≤ σ.size + 1 + 1 ∧ fl ≤ σ.size + 1 + 1 + 1 := by omega
@[simp] theorem push_pin (σ : St) (x : VObj) : (σ.push x).pin = σ.pin := (rfl)
@[simp] theorem put_pin (σ : St) (o : Nat) (x : VObj) : (σ.put o x).pin = σ.pin := (rfl)
@[simp] theorem trim_pin (σ : St) (n : Nat) : (σ.trim n).pin = σ.pin := (rfl)
@[simp] theorem push_size (σ : St) (x : VObj) : (σ.push x).size = σ.size + 1 := (rfl)
@[simp] theorem push_get (σ : St) (x : VObj) (o : Nat) : (σ.push x).get o = if o = σ.size then some x else σ.get o := (rfl)
@[simp] theorem updVD_some' (ρ : VEnv) (d : Nat) (v : V) : updVD ρ (some d) v = updV ρ d v := (rfl)
@[simp] theorem updVD_none' (ρ : VEnv) (v : V) : updVD ρ none v = ρ := (rfl)
attribute [simp] size_put put_put List.getElem?_cons_zero List.getElem?_cons_succ splice stripAt get_put_ne trim_self trim_push trim_put
end
end Go.Vw
end
