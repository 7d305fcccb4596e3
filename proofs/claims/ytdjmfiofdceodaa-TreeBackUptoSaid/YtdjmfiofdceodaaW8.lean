import Derived.Test.YtdjmfiofdceodaaW7
import Derived.HandedShaped
import Derived.Carry
import Derived.Shelf.Vars
import Derived.JoinedOf
import Derived.ProofKit
import Derived.Test.YtdjmfiofdceodaaRows
import Derived.Deep.DeepHandedRow
set_option linter.unusedVariables false
set_option linter.unusedSimpArgs false
set_option linter.unusedSectionVars false
section
/- The library in this seat, with awake. -/
namespace Go.Vw.Wm
open Go Go.RowKit Go.Abs Go.Vw Lx Tr
open Go.Proofs (Try.prog)
theorem progS : Prog Try.prog := by
  have h : Try.prog.funcs.all (fun fn => !(fn.name == "runtime.NumGoroutine")) = true := by kernel_rfl
  refine ⟨fun f fn hf => ?_⟩
  rw [Array.all_eq_true_iff_forall_mem] at h
  have := h fn (Array.mem_of_getElem? hf)
  simpa using this

/-- Nothing at all, to begin with. -/
def g0 : Gh := ⟨[], fun _ => none, fun _ => none⟩
theorem sr0 : SR g0 (fun _ => False) ⟨[], 0⟩ (bare 0) :=
  ⟨rfl, fun o x b h => (by cases h), fun b vs h => (by cases h), fun b h => h.elim, fun o b ⟨h, _⟩ => (by cases h), fun o o' b b' ⟨h, _⟩ => (by cases h), fun o b j ⟨h, _⟩ => (by cases h), fun j h => absurd rfl h, fun b _ => rfl, fun k _ => rfl, fun o x h => (by cases h), fun o b h => (by cases h), fun b _ => rfl⟩
theorem r0 (W : World) (L : Nat) : R W L (fun _ => none) (bare 0) W :=
  ⟨Below.refl _ _, fun _ _ _ => rfl, fun _ _ => rfl, fun b q h => (by cases h), fun b x h => (by cases h), fun b b' y x q q' h => (by cases h), fun b x h => (by cases h), fun b t h => (by cases h)⟩

theorem isT_some {r : Option (AV × AH)} (h : isT r = true) : ∃ H, r = some (.bool true, H) := by
  unfold isT at h
  split at h
  · rename_i b H; subst h; exact ⟨H, rfl⟩
  · cases h
theorem lim_of_T {P : Program} {ext : Nat → Option (List AV → AH → Option (AV × AH))} {n f : Nat} {args : List AV} {H : AH} {r : AV × AH} (h : evCallT P ext n f args H = some r) : lim P ext f args H = some r := lim_of (evCallT_le n _ _ _ _ h)
theorem lim_of_isT {P : Program} {ext : Nat → Option (List AV → AH → Option (AV × AH))} {n f : Nat} {args : List AV} {H : AH} (h : isT (evCallT P ext n f args H) = true) : ∃ H', lim P ext f args H = some (.bool true, H') := by
  obtain ⟨H', h'⟩ := isT_some h
  exact ⟨H', lim_of_T h'⟩
theorem awake_lim : ∃ H', lim Try.prog ext0 15 [] (bare 0) = some (.bool true, H') := lim_of_isT awake_run
theorem awake_calls (W : World) (hm : MaxCell W) : Calls Try.prog 15 #[] W fun e W' => e = .returned (.bool true) ∧ Below W.heap.size W W' := by
  obtain ⟨H', h1⟩ := awake_lim
  obtain ⟨_, h4⟩ := lim_ok (w0 := W) mixS progS (extOK0 hm) 15 [] (bare 0) _ H' h1
  obtain ⟨_, h5⟩ := h4 H'.next (fun _ => none) W #[] (Nat.le_refl _) (r0 W _) .nil
  refine h5.mono ?_
  rintro e W' ⟨u, m', rfl, _, k1, k2⟩
  cases k1
  exact ⟨rfl, k2.below⟩
def eAwake : List AV → Option AV
  | [] => some (.bool true)
  | _ => none
theorem one_Awake {w0 : World} (hm : MaxCell w0) : ExtOne Try.prog w0 15 (pureExt eAwake) := by
  intro args H v H' h
  simp only [pureExt, Option.map_eq_some_iff, Prod.mk.injEq] at h
  obtain ⟨v', h1, rfl, rfl⟩ := h
  refine ⟨Nat.le_refl _, fun L m w us _ hR hA => ?_⟩
  unfold eAwake at h1
  split at h1
  · simp only [Option.some.injEq] at h1
    subst h1
    obtain ⟨us⟩ := us
    cases hA
    exact ext_later hR (.bool _) (awake_calls w ⟨Nat.lt_of_lt_of_le hm.1 hR.below.size, hm.at hR⟩)
  · cases h1
noncomputable def extS : Nat → Option (List AV → AH → Option (AV × AH))
  | 15 => some (pureExt eAwake)
  | f => ext0 f
theorem innS : ∀ f, KS.inn f = true → extS f = none := by
  intro f h
  unfold extS
  split
  · cases h
  · unfold ext0
    split <;> first | rfl | cases h
open Go.Proofs in
theorem extOK {w0 : World} (hm : MaxCell w0) : ExtOK Try.prog w0 extS := by
  intro f c hc
  unfold extS at hc
  split at hc
  · cases hc; exact of_one (one_Awake hm) (fun us w => enters_of Try.func15 (by kernel_rfl) rfl us w)
  · exact extOK0 hm f c hc
end Go.Vw.Wm
end
section
/- The law TreeNames in this seat. -/
namespace Go.Vw.Wm
open Go Go.RowKit Go.Abs Go.Vw Lx Tr
open Go.Proofs (Try.prog)
abbrev XT : ExtV := XS Try.prog KS extS
theorem clone52 : CloneFn Try.prog 52 30 := ⟨Go.Proofs.Try.f52, _, _, _, _, _, _, _, _, _, _, _, _, 9, Go.Proofs.Try.func52, rfl, rfl, Go.Proofs.Try.underlying30, rfl⟩
theorem clone53 : CloneFn Try.prog 53 31 := ⟨Go.Proofs.Try.f53, _, _, _, _, _, _, _, _, _, _, _, _, 24, Go.Proofs.Try.func53, rfl, rfl, Go.Proofs.Try.underlying31, rfl⟩
theorem bldT : BldT Try.prog 5 63 9 := ⟨by kernel_rfl, by kernel_rfl, by kernel_rfl, by kernel_rfl, by kernel_rfl, by kernel_rfl, by kernel_rfl⟩
theorem t_cl : S_clone Try.prog KS XT 52 1 := fun fl σ o els _ he hn => of_sim (clone_sim mixS innS h_slices_Clone_string clone52 he (by omega) (by omega))
theorem t_cp : S_clone Try.prog KS XT 53 2 := fun fl σ o els _ he hn => of_sim (clone_sim mixS innS h_slices_Clone_api_Pos clone53 he (by omega) (by omega))
theorem t_ws : S_WriteString Try.prog KS XT 50 65 5 := X_WriteString bldT rfl rfl
theorem t_str : S_String Try.prog KS XT 26 65 5 := X_String rfl rfl
theorem t_Tokens : S_Tokens Try.prog KS XT 23 :=
  Tokens_ok (check_ok h_lex_check) (token_ok (X_IndexByte rfl) (take_ok h_lex_reader_take) (until_ok h_lex_reader_until) (X_HasPrefix rfl) (X_Index rfl) (X_IndexAny rfl) (nl_ok h_lex_reader_token_1) (ends_ok (X_IndexByte rfl) (X_HasPrefix rfl) h_lex_reader_ends) h_lex_reader_token) h_lex_Tokens
theorem t_list : S_list Try.prog KS XT 24 := fun N =>
  (list_stmt (words_ok (next_ok h_tree_reader_next) (off_ok h_tree_reader_off) h_tree_reader_words) (next_ok h_tree_reader_next) (off_ok h_tree_reader_off) t_cl t_cp (fail_ok h_tree_reader_fail) h_tree_reader_statement h_tree_reader_list N).1
theorem t_Parse : S_Parse Try.prog KS XT 7 := Parse_ok t_Tokens t_list h_tree_Parse
theorem t_write : S_write Try.prog KS XT 25 65 5 := write_ok (quoted_ok (X_ContainsAny rfl) (X_Contains rfl) h_tree_quoted) (X_Repeat rfl) (X_Join rfl) t_ws h_tree_write
theorem t_Print : S_Print Try.prog KS XT 8 := Print_ok t_write t_str h_tree_Print
end Go.Vw.Wm
end
section
/- The law TreeBack in this seat. -/
namespace Go.Vw.Wm
open Go Go.RowKit Go.Abs Go.Vw Lx Tr
open Go.Proofs (Try.prog)
theorem t_awake : S_awake Try.prog KS XT 15 := fun fl σ _ => of_sim (pure_sim (e := eAwake) rfl (fun g avs h => by
  cases h
  exact ⟨_, rfl, .bool _⟩) rfl)
theorem t_Equal : S_Equal Try.prog KS XT 27 := Equal_ok h_slices_Equal_string
theorem t_Same : S_Same Try.prog KS XT 18 := Same_ok t_Equal h_slices_EqualFunc_tree_Node h_tree_Same_1 h_tree_Same
theorem t_wide : S_wide Try.prog KS XT 19 := wide_ok h_law14_wide
theorem t_rows : S_rows Try.prog KS XT 13 := rows_ok h_law14_rows
theorem t_good : S_good Try.prog KS XT 17 := good_ok h_law14_good
theorem t_nodes : S_nodes Try.prog KS XT 16 := nodes_ok h_law14_nodes
theorem t_TreeBack : S_TreeBack Try.prog KS XT 5 := TreeBack_ok t_awake t_good t_nodes t_Print t_Parse t_Same t_wide t_rows h_law14_TreeBack
/-- A law that answers true, of arguments that have been laid. -/
theorem law_calls {W : World} (hm : MaxCell W) {f : Nat} {vs : List V} {g : Gh} {m : M} {H : AH} {avs : List AV} {args : Array Value} (hb : Built W g m H) (hva : VAs g vs avs) (hvr : VRs m avs args.toList) (hst : ∀ a ∈ vs, a.strip = a)
    (hbig : Big Try.prog KS XT (.call 0 f vs ⟨[], 0⟩ (.bool true) ⟨[], 0⟩)) : Calls Try.prog f args W fun e W' => e = .returned (.bool true) ∧ Below W.heap.size W W' := by
  have hs : SimCall KS (lim Try.prog extS) 0 f vs ⟨[], 0⟩ (.bool true) ⟨[], 0⟩ := sim mixS innS (fun _ _ _ _ _ _ h => h) hbig
  obtain ⟨a, H', g', h1, _, h3, _⟩ := hs g _ H avs hb.s hva hst
  cases h3
  obtain ⟨_, h4⟩ := lim_ok (w0 := W) mixS progS (extOK hm) f avs H _ H' h1
  obtain ⟨_, h5⟩ := h4 H'.next m W args (Nat.le_refl _) (hb.r _) hvr
  refine h5.mono ?_
  rintro e W' ⟨u, m', rfl, _, k1, k2⟩
  cases k1
  exact ⟨rfl, k2.below⟩
end Go.Vw.Wm
end
section
/- What all rows of this seat ask. -/
namespace Go.Proofs.Ytdjmfiofdceodaa
open Go.ChangeShapes Go.WideShapes Go.ChangeAt Go.RowKit
theorem own : ownKnob Try.prog.godebug = none := by kernel_rfl
theorem maxCell {W : World} (hsh : W.ShapedOpen Try.prog) : Go.Abs.MaxCell W := by
  obtain ⟨m, hm⟩ := cell_of_shapedOpen_int (P := Try.prog) (g := 0) (t := 3) (zero := #[.int .i64 0]) hsh (of_decide_eq_true (by kernel_rfl)) (by kernel_rfl) rfl (by kernel_rfl) (by kernel_rfl) Try.underlying3
  refine ⟨?_, m, hm⟩
  rcases Nat.eq_zero_or_pos W.heap.size with h | h
  · simp [World.cell?, h] at hm
  · exact h
end Go.Proofs.Ytdjmfiofdceodaa
end
section
/- The statement of TreeBack, where what it reads is of bulk at most 1048576. -/
namespace Go.Proofs.Ytdjmfiofdceodaa
open Go.ChangeShapes Go.WideShapes Go.ChangeAt Go.RowKit Go.Abs Go.Vw Go.Vw.Wm
theorem laidOut : laidOutB Try.prog = true := by kernel_rfl
theorem plain38 : plainTy Try.prog 6 38 = true := by kernel_rfl
theorem plain9 : plainTy Try.prog 1 9 = true := by kernel_rfl
theorem cells38 : Try.prog.cellsOf 38 = 1 := by kernel_rfl
theorem cells9 : Try.prog.cellsOf 9 = 1 := by kernel_rfl
theorem trodAll_three {H : Type} {enc : TypeId × Value → H} {P : Program} {w : World} {base : Nat} {spare : Nat → Bool} {held : Bool} {t0 t1 t2 : TypeId} {args : Array Value} {ds : List (DataW H)} {ps : List MemPlace} (h : DataW.TrodAll enc P w base spare held [t0, t1, t2] args.toList ds ps) :
    ∃ v0 v1 v2 d0 d1 d2 p0 p1 p2, args = #[v0, v1, v2] ∧ ds = [d0, d1, d2] ∧ ps = p0 ++ p1 ++ p2 ∧ DataW.Trod enc P w base spare held t0 v0 d0 p0 ∧ DataW.Trod enc P w base spare held t1 v1 d1 p1 ∧ DataW.Trod enc P w base spare held t2 v2 d2 p2 := by
  obtain ⟨v0, vs0, d0, ds0, p0, q0, hargs, rfl, rfl, h0, r0⟩ := trodAll_cons h
  obtain ⟨v1, vs1, d1, ds1, p1, q1, rfl, rfl, rfl, h1, r1⟩ := trodAll_cons r0
  obtain ⟨v2, vs2, d2, ds2, p2, q2, rfl, rfl, rfl, h2, r2⟩ := trodAll_cons r1
  obtain ⟨rfl, rfl, rfl⟩ := trodAll_nil r2
  refine ⟨v0, v1, v2, d0, d1, d2, p0, p1, p2, ?_, rfl, by simp, h0, h1, h2⟩
  cases args; simp_all
theorem laid_none {W : World} : laidMetH Try.prog [] W := by
  show laidMet Try.prog [] W
  exact ⟨[], rfl, List.nodup_nil, fun b off h => by cases h⟩
theorem witness_row (os : Os) {H : Type} (enc : TypeId × Value → H) :
    (Rows.OpenSpec.upto Rows.treeBackSpec).preRow enc Try.prog Try.f5 Rows.treeBackUptoRow.domain false [] ((World.holding Try.prog os ⟨#[], #[], []⟩).forCall (fun _ _ => 0) ⟨#[], #[.slice none 0 0, .string ⟨#[]⟩, .string ⟨#[]⟩], []⟩).memory #[.slice none 0 0, .string ⟨#[]⟩, .string ⟨#[]⟩] := by
  have hw : (DataW.whole enc Try.prog ((World.holding Try.prog os ⟨#[], #[], []⟩).forCall (fun _ _ => 0) ⟨#[], #[.slice none 0 0, .string ⟨#[]⟩, .string ⟨#[]⟩], []⟩).memory Try.f5.params.toList (Rows.OpenSpec.upto Rows.treeBackSpec).vars false #[Value.slice none 0 0, .string ⟨#[]⟩, .string ⟨#[]⟩].toList 8) = some ([.nil, .lit (.string []), .lit (.string [])], [], []) := by kernel_rfl
  exact OpenSpec.preRow_of_cond 8 hw (by kernel_rfl) (fun k hk => by cases hk; rfl) (by kernel_rfl) laid_none
set_option maxRecDepth 100000 in
set_option maxHeartbeats 2000000 in
theorem treeBack_lifted (os : Os) (started : os.Started) (H : Type) (enc : TypeId × Value → H) (F : Stop.Interp) :
    ReturnsInHanded {} Try.checked os 5 .any ((Rows.OpenSpec.upto Rows.treeBackSpec).preRow enc Try.prog Try.f5 Rows.treeBackUptoRow.domain false []) (((Rows.OpenSpec.upto Rows.treeBackSpec).at F).post enc Try.prog Try.f5 false true false false) := by
  refine returnsInHanded_of_row (C := Try.checked) (s := Rows.OpenSpec.upto Rows.treeBackSpec) own started (by kernel_rfl) Try.func5
    (witness_row_at (enc := enc) (C := Try.checked) false (World.holding Try.prog os ⟨#[], #[], []⟩) #[.slice none 0 0, .string ⟨#[]⟩, .string ⟨#[]⟩] rfl (by kernel_rfl) (by kernel_rfl) (by kernel_rfl) (witness_row os enc)) ?_
  intro W base args ds gs before hval0 hW _ hcond0 _ _ hsh _
  have hcond : Rows.uptoSmall H (ds ++ gs) = true := hcond0 _ rfl
  have hval : ∀ (j : Nat) t v, Try.f5.params[j]? = some t → args[j]? = some v → Value.okWide Try.prog W .any base t v := hval0
  have hW' := hW
  obtain ⟨p, q, hA0, hV0, rfl, _, _⟩ := hW
  have hA : DataW.TrodAll enc Try.prog W 0 (fun _ => true) true Try.f5.params.toList args.toList ds p := hA0
  rw [Try.params5] at hA hval
  obtain ⟨v0, v1, v2, d0, d1, d2, p0, p1, p2, rfl, rfl, rfl, h0, h1, h2⟩ := trodAll_three hA
  obtain ⟨rfl, rfl⟩ := trodVars_none hV0
  obtain ⟨a0, lt, ct, rfl⟩ := okWide_slice Try.underlying38 (hval 0 38 v0 rfl rfl)
  obtain ⟨s1, rfl⟩ := okWide_string Try.underlying9 (hval 1 9 v1 rfl rfl)
  obtain ⟨s2, rfl⟩ := okWide_string Try.underlying9 (hval 2 9 v2 rfl rfl)
  have h0k := h0
  have h1k := h1
  have h2k := h2
  obtain ⟨fuel0, hf0⟩ := h0
  obtain ⟨fuel1, hf1⟩ := h1
  obtain ⟨fuel2, hf2⟩ := h2
  clear hA0 hV0 hval0
  simp only [List.append_nil] at hW' hcond
  have hlt : ∀ x ∈ p0 ++ p1 ++ p2, x.block < W.heap.size := fun x hx => by simpa using hW'.lt x hx
  have hm := maxCell hsh
  obtain ⟨l, hl1, hl2⟩ := d_rows hf0
  obtain ⟨b1, e1, hz1, _⟩ := d_str Try.underlying9 hf1
  obtain ⟨b2, e2, hz2, _⟩ := d_str Try.underlying9 hf2
  simp only at hl1 hl2 e1 e2
  have hbulk : Rows.uptoBulkAll [d0, d1, d2] ≤ 1048576 := by simpa [Rows.uptoSmall] using hcond
  simp only [Rows.uptoBulkAll] at hbulk
  obtain ⟨g', m', H', hb, _, _, as0, as1, as2, k0, k1, k2⟩ : Grows W ⟨[], fun _ => none, fun _ => none⟩ (fun _ => none) (bare 0) fun g' m' => ∃ as0 as1 as2, Same3 g' m' (encD d0) as0 [.slice a0 lt ct] ∧ Same3 g' m' (encD d1) as1 [.string s1] ∧ Same3 g' m' (encD d2) as2 [.string s2] := by
    refine (grow hm.1 6 38 plain38 fuel0 [.slice a0 lt ct] _ hf0 (by rw [cells38]; rfl) _ _ _ (built0 W)).bind fun g1 m1 H1 hb1 _ _ ⟨as0, k0⟩ => ?_
    refine (grow hm.1 1 9 plain9 fuel1 [.string s1] _ hf1 (by rw [cells9]; rfl) _ _ _ hb1).bind fun g2 m2 H2 hb2 hs2 hl2 ⟨as1, k1⟩ => ?_
    refine (grow hm.1 1 9 plain9 fuel2 [.string s2] _ hf2 (by rw [cells9]; rfl) _ _ _ hb2).mono fun g3 m3 hs3 hl3 ⟨as2, k2⟩ => ?_
    exact ⟨as0, as1, as2, (k0.mono hs2 hl2).mono hs3 hl3, k1.mono hs3 hl3, k2⟩
  have kall := (k0.append k1).append k2
  rw [hl1, e1, e2] at kall
  have hbig := t_TreeBack 0 ⟨[], 0⟩ l b1.data.toList b2.data.toList (Nat.le_refl _) (Nat.le_refl _) (fun r hr => by have := hl2 r hr; have := words_3 r.words; omega) (by
    have : Rows.uptoBulk d2 = b2.data.toList.length + 1 := by rw [e2, Rows.uptoBulk]
    omega)
  refine (law_calls hm (args := #[.slice a0 lt ct, .string s1, .string s2]) hb kall.va kall.vr (by
    intro a ha
    simp only [encD, List.cons_append, List.nil_append, List.mem_cons, List.not_mem_nil, or_false] at ha
    rcases ha with rfl | rfl | rfl <;> rfl) hbig).mono fun e W' ⟨he, bel⟩ => ?_
  subst he
  refine ⟨_, rfl, _, _, _, [], p0 ++ p1 ++ p2, [], hW', ?_, ?_, ?_, bel.frame _, fun h => by cases h⟩
  · exact trodAll_mk1 (shut_bool Try.underlying4 _)
  · refine ⟨p0, p1 ++ p2, Below.trod laidOut (by kernel_rfl) (of_decide_eq_true (by kernel_rfl)) h0k bel (fun x hx => hlt x (by simp [hx])), trodAll_mk2 (Below.trod laidOut (by kernel_rfl) (of_decide_eq_true (by kernel_rfl)) h1k bel (fun x hx => hlt x (by simp [hx]))) (Below.trod laidOut (by kernel_rfl) (of_decide_eq_true (by kernel_rfl)) h2k bel (fun x hx => hlt x (by simp [hx]))), by simp⟩
  · rfl
theorem treeBack_holds : Rows.TreeBackUptoSaid :=
  OpenClaim.holds_of_cond 5 Try.f5 rfl rfl rfl rfl rfl rfl rfl ⟨rfl, rfl, rfl, rfl, rfl⟩ rfl rfl rfl rfl rfl (by kernel_rfl) Try.func5 (by kernel_rfl)
    (of_decide_eq_true (by kernel_rfl)) (by unfold Func.isWrapper; first | (rw [if_pos (by decide +kernel)]; kernel_rfl) | (rw [if_neg (by decide +kernel)]; exact ⟨rfl, rfl⟩))
    (fun os started H enc _ F0 => by rw [OpenClaim.pre_eq_preRow]; exact treeBack_lifted os started H enc F0)
end Go.Proofs.Ytdjmfiofdceodaa
end
