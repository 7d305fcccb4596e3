import Derived.Test.YtdjmfiofdceodaaW4
import Derived.Lib.Bytealg
import Derived.Lib.Index
import Derived.Lib.IndexAny
import Derived.Lib.IndexMore
import Derived.Lib.Repeat
import Derived.Lib.Join
set_option linter.unusedVariables false
set_option linter.unusedSimpArgs false
set_option linter.unusedSectionVars false
section
/- The walks of package tree's reader. -/
namespace Go.Vw.Wm
open Go Go.RowKit Go.Abs Go.Vw Lx Tr
set_option maxRecDepth 20000
set_option linter.unusedSimpArgs false
set_option linter.unusedVariables false

abbrev Pos := Lx.Pos
abbrev Tok := Lx.Tok
abbrev Node := Tr.Node
def encP (p : Pos) : List V := [.int .i64 p.line, .int .i64 p.col]
def encT (t : Tok) : List V := .int .u8 t.kind :: .str t.text :: encP t.pos
def encToks (l : List Tok) : V := .vec false (l.map encT)
/-- The state of a reader. -/
structure Rd where
  toks : List Tok
  err : Int
  pos : Pos
def Rd.enc (r : Rd) : List V := encToks r.toks :: .int .i64 r.err :: encP r.pos
@[simp] theorem encP_len (p : Pos) : (encP p).length = 2 := rfl
@[simp] theorem encT_len (t : Tok) : (encT t).length = 4 := rfl
@[simp] theorem encP_lows (n : Nat) (p : Pos) : V.lows n (encP p) = true := (rfl)
@[simp] theorem encT_lows (n : Nat) (t : Tok) : V.lows n (encT t) = true := (rfl)

variable {P : Program} {K : Knobs} {X : ExtV}
def S_next (P : Program) (K : Knobs) (X : ExtV) (f : Nat) : Prop := ∀ (fl : Nat) (σ : St) (x : Nat) (r : Rd), fl ≤ σ.size → σ.get x = some (.cells r.enc) →
    Big P K X (.call fl f [.ptr x 0] σ (.int .u8 (match r.toks with | [] => 0 | t :: _ => t.kind)) σ)
theorem next_ok {f : Nat} {q : Bool} (H : Has P K f q c_tree_reader_next) : S_next P K X f := by
  intro fl σ x r hfl hx
  refine H_callq H (Nat.le_of_ble_eq_true rfl) hfl fun fl' h1 h2 => ?_
  obtain ⟨toks, e, p⟩ := r
  cases toks with
  | nil => simp [c_tree_reader_next, hx, Rd.enc, encToks]
  | cons t l =>
    have : ¬ ((l.length : Int) + 1 = 0) := by omega
    simp [c_tree_reader_next, hx, Rd.enc, encToks, this, encT]

/-- A token is taken off. -/
def S_off (P : Program) (K : Knobs) (X : ExtV) (f : Nat) : Prop := ∀ (fl : Nat) (σ : St) (x : Nat) (r : Rd) (t : Tok) (l : List Tok), fl ≤ x → σ.pin ≤ σ.size → σ.get x = some (.cells r.enc) → r.toks = t :: l →
    Big P K X (.call fl f [.ptr x 0] σ (.agg (encT t)) (σ.put x (.cells ({ r with toks := l } : Rd).enc)))
theorem off_ok {f : Nat} (H : Has P K f false c_tree_reader_off) : S_off P K X f := by
  intro fl σ x r t l hfl hp hx hr
  have hxs := get_lt hx
  obtain ⟨toks, e, p⟩ := r
  subst hr
  refine H_call H (Nat.le_of_ble_eq_true rfl) ?_
  simp [c_tree_reader_off, hx, Rd.enc, encToks, encT, encP, near hfl hxs, hp]

/-- The first error counts. -/
def Rd.fail (r : Rd) (e : Int) (p : Pos) : Rd := if r.err = 0 then { r with err := e, pos := p } else r
def S_fail (P : Program) (K : Knobs) (X : ExtV) (f : Nat) : Prop := ∀ (fl : Nat) (σ : St) (x : Nat) (r : Rd) (e : Int) (p : Pos), fl ≤ x → σ.pin ≤ σ.size → σ.get x = some (.cells r.enc) →
    Big P K X (.call fl f [.ptr x 0, .int .i64 e, .agg (encP p)] σ (.tuple []) (σ.put x (.cells (r.fail e p).enc)))
theorem fail_ok {f : Nat} (H : Has P K f false c_tree_reader_fail) : S_fail P K X f := by
  intro fl σ x r e p hfl hp hx
  have hxs := get_lt hx
  obtain ⟨toks, er, rp⟩ := r
  refine H_call H (Nat.le_of_ble_eq_true rfl) ?_
  by_cases h : er = 0
  · simp [c_tree_reader_fail, hx, Rd.enc, encToks, encP, near hfl hxs, hp, h, Rd.fail]
  · simp [c_tree_reader_fail, hx, Rd.enc, encToks, encP, near hfl hxs, hp, h, Rd.fail]
    exact (put_get hx).symm

/-- Words as they are gathered. -/
def wordCell (w : List UInt8) : List V := [.str w]
@[simp] theorem wordCell_lows (n : Nat) (w : List UInt8) : V.lows n (wordCell w) = true := (rfl)
@[simp] theorem wordCell_len (w : List UInt8) : (wordCell w).length = 1 := (rfl)
def wordsNode (acc : List Tok) : List V := [.vec true (acc.map fun t => wordCell t.text), .vec true (acc.map fun t => encP t.pos), .bool false, .vec true []]
theorem words_loop {wm : TypeId → Bool} {n fl : Nat} {Q : Ex → VEnv → St → Prop} {k : List Lf} {fn fo : Nat} (hn : S_next P K X fn) (ho : S_off P K X fo) {σ0 : St} {x : Nat} {c0 : VObj} (hfl : fl ≤ x) (hp : σ0.pin ≤ σ0.size) (hx : σ0.get x = some c0) :
    ∀ (r : Rd) (acc : List Tok) (ρ : VEnv), ρ 0 = .ptr x 0 → ρ 2 = .ptr σ0.size 0 → acc.length + r.toks.length ≤ 16777216 →
      (∀ ρ', ρ' 0 = .ptr x 0 → ρ' 2 = .ptr σ0.size 0 → contM P K X wm n fl true Q k (.exit 0) ρ' ((σ0.put x (.cells ({ r with toks := r.toks.dropWhile plain } : Rd).enc)).push (.cells (wordsNode (acc ++ r.toks.takeWhile plain))))) →
      loopM P K X wm n fl true Q (l_tree_reader_words_0 fn fo) k ρ ((σ0.put x (.cells r.enc)).push (.cells (wordsNode acc))) := by
  have hxs := get_lt hx
  intro r
  obtain ⟨toks, e, p⟩ := r
  induction toks with
  | nil =>
    intro acc ρ h0 h2 hb hQ
    refine loopM_at (l_tree_reader_words_0.eq_1 _ _) ?_
    simp [h0]
    refine callM_of (hn _ _ _ ⟨[], e, p⟩ (by simp; omega) (by simp [near hfl hxs, hx])) ?_
    simp [near hfl hxs, pinned hp]
    refine contM_to (hQ _ ?_ ?_) ?_ <;> simp [h0, h2, near hfl hxs]
  | cons t l ih =>
    intro acc ρ h0 h2 hb hQ
    refine loopM_at (l_tree_reader_words_0.eq_1 _ _) ?_
    simp [h0]
    refine callM_of (hn _ _ _ ⟨t :: l, e, p⟩ (by simp; omega) (by simp [near hfl hxs, hx])) ?_
    by_cases ht : t.kind = 1
    · have hb' : acc.length + 1 ≤ 33554432 := by simp at hb; omega
      simp [near hfl hxs, pinned hp, ht, h0]
      refine callM_of (ho _ _ _ ⟨t :: l, e, p⟩ t l hfl (by simp [pinned hp]) (by simp [near hfl hxs, hx]) rfl) ?_
      simp [near hfl hxs, pinned hp, ht, h0, h2, encT, encP, wordsNode, wordCell, hb']
      refine loopM_to (ih (acc ++ [t]) _ ?_ ?_ ?_ ?_) ?_
      · simp [h0, near hfl hxs]
      · simp [h2, near hfl hxs]
      · simp at hb ⊢; omega
      · intro ρ' h0' h2'
        have := hQ ρ' h0' h2'
        simpa [ht, plain] using this
      · simp [wordsNode, wordCell, encP]
    · simp [near hfl hxs, pinned hp, ht]
      have h1 : ¬ ((t.kind : Int) = 1) := by omega
      simp [near hfl hxs, pinned hp, ht, h1]
      refine contM_to (hQ _ ?_ ?_) ?_ <;> simp [h0, h2, near hfl hxs, ht, plain]

mutual
def encN : Node → List V
  | .mk w p b k => [.vec false (w.map wordCell), .vec false (p.map encP), .bool b, .vec false (encNs k)]
def encNs : List Node → List (List V)
  | [] => []
  | n :: l => encN n :: encNs l
end
mutual
@[simp] theorem encN_lows (n : Nat) : ∀ (x : Node), V.lows n (encN x) = true
  | .mk w p b k => by simp [encN, encNs_lowss n k]
@[simp] theorem encNs_lowss (n : Nat) : ∀ (l : List Node), V.lowss n (encNs l) = true
  | [] => rfl
  | x :: l => by simp [encNs, encN_lows n x, encNs_lowss n l]
end
@[simp] theorem encN_len (x : Node) : (encN x).length = 4 := by cases x; rfl
theorem encNs_map : ∀ (l : List Node), encNs l = l.map encN
  | [] => rfl
  | x :: l => by simp [encNs, encNs_map l]
def Rd.words (r : Rd) : Node := leafOf (wordsOf r.toks)
def Rd.past (r : Rd) : Rd := { r with toks := behind r.toks }
def S_words (P : Program) (K : Knobs) (X : ExtV) (f : Nat) : Prop := ∀ (fl : Nat) (σ : St) (x : Nat) (r : Rd), fl ≤ x → σ.pin ≤ σ.size → σ.get x = some (.cells r.enc) → r.toks.length ≤ 16777216 →
    Big P K X (.call fl f [.ptr x 0] σ (.agg (encN r.words)) (σ.put x (.cells r.past.enc)))
theorem words_ok {f fn fo : Nat} (hn : S_next P K X fn) (ho : S_off P K X fo) (H : Has P K f false (c_tree_reader_words fn fo)) : S_words P K X f := by
  intro fl σ x r hfl hp hx hb
  have hxs := get_lt hx
  refine H_call H (Nat.le_of_ble_eq_true rfl) ?_
  simp [c_tree_reader_words]
  refine loopM_to (words_loop hn ho hfl hp hx r [] _ ?_ ?_ ?_ ?_) ?_
  · simp
  · simp
  · simpa using hb
  · intro ρ' h0 h2
    simp [wordsNode, h2, near hfl hxs, pinned hp, Rd.words, Rd.past, encN, encNs, leafOf, wordsOf, behind, Function.comp_def]
  · simp [wordsNode, put_get hx]
end Go.Vw.Wm
end
section
/- The walks of package lex. -/
namespace Go.Vw.Wm
open Go Go.RowKit Go.Abs Go.Vw Lx Tr
set_option maxRecDepth 20000
set_option linter.unusedSimpArgs false
set_option linter.unusedVariables false
variable {P : Program} {K : Knobs} {X : ExtV}

theorem u8_eq {c d : UInt8} : c = d ↔ (c.toNat : Int) = (d.toNat : Int) := by
  constructor
  · intro e; rw [e]
  · intro e; exact UInt8.toNat_inj.1 (by omega)
theorem u8_lt {c d : UInt8} : c < d ↔ (c.toNat : Int) < (d.toNat : Int) := by
  rw [UInt8.lt_iff_toNat_lt]; omega
theorem u8_10 {c : UInt8} : c = 10 ↔ (c.toNat : Int) = 10 := u8_eq
theorem u8_32 {c : UInt8} : c < 32 ↔ (c.toNat : Int) < 32 := u8_lt
theorem u8_126 {c : UInt8} : 126 < c ↔ 126 < (c.toNat : Int) := u8_lt

section
variable {wm : TypeId → Bool} {n fl : Nat} {Q : Ex → VEnv → St → Prop} {k : List Lf} {σ0 : St} {s : Str}
theorem check_loop (hfl : fl ≤ σ0.size) (hp : σ0.pin ≤ σ0.size) (hs : s.length ≤ 65536)
    (hE : ∀ ρ' at', ρ' 2 = .ptr σ0.size 0 → checkL ⟨1, 1⟩ s = (⟨0, 0⟩, 0) → contM P K X wm n fl true Q k (.exit 0) ρ' ((σ0.push (.cells (encP ⟨0, 0⟩))).push (.cells (encP at'))))
    (hR : ∀ ρ' at' p e, ρ' 2 = .ptr σ0.size 0 → ρ' 3 = .int .i64 e → checkL ⟨1, 1⟩ s = (p, e) → contM P K X wm n fl true Q k .ret ρ' ((σ0.push (.cells (encP p))).push (.cells (encP at')))) :
    ∀ (l pre : Str) (p : Pos) (ρ : VEnv), s = pre ++ l → checkL ⟨1, 1⟩ s = checkL p l → 0 ≤ p.line → p.line ≤ pre.length + 1 → 0 ≤ p.col → p.col ≤ pre.length + 1 → ρ 0 = .str s → ρ 2 = .ptr σ0.size 0 → ρ 4 = .ptr (σ0.size + 1) 0 → ρ 12 = .int .i64 s.length → ρ 13 = .int .i64 pre.length →
      loopM P K X wm n fl true Q l_lex_check_0 k ρ ((σ0.push (.cells (encP ⟨0, 0⟩))).push (.cells (encP p))) := by
  intro l
  induction l with
  | nil =>
    intro pre p ρ hi hc b1 b2 b3 b4 r0 r2 r4 r12 r13
    rw [List.append_nil] at hi
    subst hi
    refine loopM_at l_lex_check_0.eq_1 ?_
    simp [r12, r13, pinned hp]
    refine contM_to (hE _ p (by simp [r2]) (by rw [hc]; rfl)) ?_
    simp
  | cons c t ih =>
    intro pre p ρ hi hc b1 b2 b3 b4 r0 r2 r4 r12 r13
    have hlen : pre.length < s.length := by rw [hi]; simp
    have hget : s[pre.length]? = some c := by rw [hi]; simp
    have hlt : (pre.length : Int) < (s.length : Int) := by omega
    refine loopM_at l_lex_check_0.eq_1 ?_
    have hL : checkL p (c :: t) = if p.line > 4096 then (p, 3) else if c = 10 then checkL ⟨p.line + 1, 1⟩ t else if c < 32 ∨ c > 126 then (p, 70) else checkL ⟨p.line, p.col + 1⟩ t := rfl
    rw [hL] at hc
    have hgi : s[pre.length] = c := by
      rw [List.getElem?_eq_getElem hlen] at hget
      exact Option.some.inj hget
    have hw : IntKind.i64.wrap ((pre.length : Int) + 1) = (pre.length : Int) + 1 := wrap_i64 (by omega) (by omega)
    by_cases h1 : 4096 < p.line
    · rw [if_pos h1] at hc
      simp [r12, r13, r0, r4, r2, hlt, hlen, hget, pinned hp, nearq hfl, encP, h1]
      refine contM_to (hR _ p p 3 (by simp [r2]) (by simp) hc) ?_
      simp [encP]
    · rw [if_neg h1] at hc
      by_cases h10 : c = 10
      · rw [if_pos h10] at hc
        have hwl : IntKind.i64.wrap (p.line + 1) = p.line + 1 := wrap_i64 (by omega) (by omega)
        have h10' := u8_10.1 h10
        simp [r12, r13, r0, r4, r2, hlt, hlen, hgi, pinned hp, nearq hfl, encP, h1, h10', hwl, hw]
        refine loopM_to (ih (pre ++ [c]) ⟨p.line + 1, 1⟩ _ (by rw [hi]; simp) hc (by simp; omega) (by simp; omega) (by simp) (by simp; omega) ?_ ?_ ?_ ?_ ?_) ?_
        all_goals simp [r0, r2, r4, r12, encP]
      · rw [if_neg h10] at hc
        have h10' : ¬ ((c.toNat : Int) = 10) := fun e => h10 (u8_10.2 e)
        by_cases hb : c < 32 ∨ c > 126
        · rw [if_pos hb] at hc
          have hfin : ∀ ρ', ρ' 2 = .ptr σ0.size 0 → ρ' 3 = .int .i64 70 → contM P K X wm n fl true Q k .ret ρ' ((σ0.push (.cells (encP p))).push (.cells (encP p))) := fun ρ' q1 q2 => hR ρ' p p 70 q1 q2 hc
          by_cases hb1 : c < 32
          · have hb1' := u8_32.1 hb1
            simp [r12, r13, r0, r4, r2, hlt, hlen, hgi, pinned hp, nearq hfl, encP, h1, h10', hb1']
            exact hfin _ (by simp [r2]) (by simp)
          · have hb1' : ¬ ((c.toNat : Int) < 32) := fun e => hb1 (u8_32.2 e)
            have hb2' := u8_126.1 (hb.resolve_left hb1)
            simp [r12, r13, r0, r4, r2, hlt, hlen, hgi, pinned hp, nearq hfl, encP, h1, h10', hb1', hb2']
            exact hfin _ (by simp [r2]) (by simp)
        · rw [if_neg hb] at hc
          have hb1' : ¬ ((c.toNat : Int) < 32) := fun e => hb (.inl (u8_32.2 e))
          have hb2' : ¬ (126 < (c.toNat : Int)) := fun e => hb (.inr (u8_126.2 e))
          have hwl : IntKind.i64.wrap (p.col + 1) = p.col + 1 := wrap_i64 (by omega) (by omega)
          simp [r12, r13, r0, r4, r2, hlt, hlen, hgi, pinned hp, nearq hfl, encP, h1, h10', hb1', hb2', hwl, hw]
          refine loopM_to (ih (pre ++ [c]) ⟨p.line, p.col + 1⟩ _ (by rw [hi]; simp) hc (by simp; omega) (by simp; omega) (by simp; omega) (by simp; omega) ?_ ?_ ?_ ?_ ?_) ?_
          all_goals simp [r0, r2, r4, r12, encP]
end
def S_check (P : Program) (K : Knobs) (X : ExtV) (f : Nat) : Prop := ∀ (fl : Nat) (σ : St) (s : Str), fl ≤ σ.size → σ.pin ≤ σ.size →
    Big P K X (.call fl f [.str s] σ (.tuple [.agg (encP (check s).1), .int .i64 (check s).2]) σ)
theorem check_ok {f : Nat} (H : Has P K f false c_lex_check) : S_check P K X f := by
  intro fl σ s hfl hp
  refine H_call H (Nat.le_of_ble_eq_true rfl) ?_
  unfold Lx.check
  by_cases h : s.length > 65536
  · rw [if_pos h]
    have h' : (65536 : Int) < s.length := by omega
    simp [c_lex_check, h', nearq hfl, pinned hp, encP]
  · rw [if_neg h]
    have h' : ¬ ((65536 : Int) < s.length) := by omega
    simp [c_lex_check, h', nearq hfl, pinned hp]
    refine loopM_to (check_loop (σ0 := σ) (s := s) hfl hp (by omega) ?_ ?_ s [] ⟨1, 1⟩ _ rfl rfl (by simp) (by simp) (by simp) (by simp) ?_ ?_ ?_ ?_ ?_) ?_
    · intro ρ' at' r2 hc
      rw [hc]
      simp [r2, nearq hfl, pinned hp, encP]
    · intro ρ' at' p e r2 r3 hc
      rw [hc]
      simp [r2, r3, nearq hfl, pinned hp, encP]
    all_goals simp [encP]

def encR (rest : Str) (p : Pos) : List V := .str rest :: encP p
def posOK (p : Pos) (n : Nat) : Prop := 0 ≤ p.line ∧ 0 ≤ p.col ∧ p.line + n ≤ 1099511627776 ∧ p.col + n ≤ 1099511627776
theorem posOK.adv {p : Pos} {n : Nat} (h : posOK p (n + 1)) (c : UInt8) : posOK (adv p c) n := by
  unfold posOK at h ⊢
  unfold Lx.adv
  split <;> simp <;> omega
theorem posOK.advs : ∀ (l : Str) {p : Pos} {n : Nat}, posOK p (l.length + n) → posOK (advs p l) n
  | [], p, n, h => by simpa [Lx.advs] using h
  | c :: l, p, n, h => by
    have := posOK.advs l (p := Lx.adv p c) (n := n) (posOK.adv (by rw [show l.length + n + 1 = (c :: l).length + n by simp; omega]; exact h) c)
    exact this
section
variable {wm : TypeId → Bool} {n fl : Nat} {Q : Ex → VEnv → St → Prop} {k : List Lf} {σ0 : St} {x : Nat} {c0 : VObj} {s rest : Str}
theorem take_loop (hfl : fl ≤ x) (hp : σ0.pin ≤ σ0.size) (hx : σ0.get x = some c0) (hs : s.length ≤ 1099511627776)
    {p0 : Pos} (hE : ∀ ρ', ρ' 5 = .str s → contM P K X wm n fl true Q k (.exit 0) ρ' (σ0.put x (.cells (encR rest (advs p0 s))))) :
    ∀ (l pre : Str) (p : Pos) (ρ : VEnv), s = pre ++ l → advs p l = advs p0 s → posOK p l.length → ρ 0 = .ptr x 0 → ρ 5 = .str s → ρ 22 = .int .i64 s.length → ρ 23 = .int .i64 pre.length →
      loopM P K X wm n fl true Q l_lex_reader_take_0 k ρ (σ0.put x (.cells (encR rest p))) := by
  have hxs := get_lt hx
  intro l
  induction l with
  | nil =>
    intro pre p ρ hi ha hb r0 r5 r22 r23
    rw [List.append_nil] at hi
    subst hi
    refine loopM_at l_lex_reader_take_0.eq_1 ?_
    simp [r22, r23, pinned hp]
    refine contM_to (hE _ (by simp [r5])) ?_
    rw [← ha]
    simp [Lx.advs]
  | cons c t ih =>
    intro pre p ρ hi ha hb r0 r5 r22 r23
    have hlen : pre.length < s.length := by rw [hi]; simp
    have hget : s[pre.length]? = some c := by rw [hi]; simp
    have hgi : s[pre.length] = c := by
      rw [List.getElem?_eq_getElem hlen] at hget
      exact Option.some.inj hget
    have hlt : (pre.length : Int) < (s.length : Int) := by omega
    have hw : IntKind.i64.wrap ((pre.length : Int) + 1) = (pre.length : Int) + 1 := wrap_i64 (by omega) (by omega)
    have hb' := hb
    unfold posOK at hb'
    have hwl : IntKind.i64.wrap (p.line + 1) = p.line + 1 := wrap_i64 (by omega) (by omega)
    have hwc : IntKind.i64.wrap (p.col + 1) = p.col + 1 := wrap_i64 (by omega) (by omega)
    refine loopM_at l_lex_reader_take_0.eq_1 ?_
    by_cases h10 : c = 10
    · have h10' := u8_10.1 h10
      simp [r22, r23, r0, r5, hlt, hlen, hgi, hx, near hfl hxs, pinned hp, encR, encP, hwl, hwc, hw, h10']
      refine loopM_to (ih (pre ++ [c]) (adv p c) _ (by rw [hi]; simp) ha (hb.adv c) ?_ ?_ ?_ ?_) ?_
      all_goals simp [r0, r5, r22, near hfl hxs, encR, encP, Lx.adv, h10]
    · have h10' : ¬ ((c.toNat : Int) = 10) := fun e => h10 (u8_10.2 e)
      simp [r22, r23, r0, r5, hlt, hlen, hgi, hx, near hfl hxs, pinned hp, encR, encP, hwl, hwc, hw, h10']
      refine loopM_to (ih (pre ++ [c]) (adv p c) _ (by rw [hi]; simp) ha (hb.adv c) ?_ ?_ ?_ ?_) ?_
      all_goals simp [r0, r5, r22, near hfl hxs, encR, encP, Lx.adv, h10]
end
def S_take (P : Program) (K : Knobs) (X : ExtV) (f : Nat) : Prop := ∀ (fl : Nat) (σ : St) (x : Nat) (rest : Str) (p : Pos) (m : Nat), fl ≤ x → σ.pin ≤ σ.size → σ.get x = some (.cells (encR rest p)) → m ≤ rest.length → rest.length ≤ 16777216 → posOK p m →
    Big P K X (.call fl f [.ptr x 0, .int .i64 m] σ (.str (rest.take m)) (σ.put x (.cells (encR (rest.drop m) (advs p (rest.take m))))))
theorem take_ok {f : Nat} (H : Has P K f false c_lex_reader_take) : S_take P K X f := by
  intro fl σ x rest p m hfl hp hx hm hr hb
  have hxs := get_lt hx
  refine H_call H (Nat.le_of_ble_eq_true rfl) ?_
  have hlen : (rest.take m).length = m := by simp; omega
  simp [c_lex_reader_take, hx, encR, encP, near hfl hxs, hm]
  refine loopM_to (take_loop (s := rest.take m) (rest := rest.drop m) (p0 := p) hfl hp hx (by omega) ?_ (rest.take m) [] p _ rfl rfl (by rw [hlen]; exact hb) ?_ ?_ ?_ ?_) ?_
  · intro ρ' r5
    simp [r5, encR, encP, near hfl hxs, pinned hp]
  all_goals simp [encR, encP, hlen]

section
variable {wm : TypeId → Bool} {n fl : Nat} {Q : Ex → VEnv → St → Prop} {k : List Lf} {σ : St} {x g : Nat} {rest : Str} {p : Pos} {first caps : List V} {q : Str → Bool}
theorem until_loop (hfl : fl ≤ σ.size) (hp : σ.pin ≤ σ.size) (hx : σ.get x = some (.cells (encR rest p))) (hs : rest.length ≤ 16777216) (h1 : first.map V.strip = first) (h2 : caps.map V.strip = caps) (h3 : V.lows σ.size first = true) (h4 : V.lows σ.size caps = true)
    (hq : ∀ (pre : Str) (c : UInt8) (t : Str), rest = pre ++ c :: t → ∀ fl', fl' ≤ σ.size → Big P K X (.call fl' g (first ++ [.int .i64 pre.length] ++ caps) σ (.bool (q (c :: t))) σ))
    (hE : ∀ ρ', ρ' 5 = .int .i64 (upto q rest) → contM P K X wm n fl true Q k (.exit 0) ρ' σ) :
    ∀ (l pre : Str) (ρ : VEnv), rest = pre ++ l → upto q rest = pre.length + upto q l → ρ 0 = .ptr x 0 → ρ 1 = .func g first caps → ρ 5 = .int .i64 pre.length →
      loopM P K X wm n fl true Q l_lex_reader_until_0 k ρ σ := by
  have hxs := get_lt hx
  intro l
  induction l with
  | nil =>
    intro pre ρ hi hu r0 r1 r5
    rw [List.append_nil] at hi
    subst hi
    refine loopM_at l_lex_reader_until_0.eq_1 ?_
    simp [r0, r1, r5, pinned hp, hx, encR]
    refine hE _ (by simp [r5, hu, upto])
  | cons c t ih =>
    intro pre ρ hi hu r0 r1 r5
    have hlen : pre.length < rest.length := by rw [hi]; simp
    have hlt : (pre.length : Int) < (rest.length : Int) := by omega
    have hw : IntKind.i64.wrap ((pre.length : Int) + 1) = (pre.length : Int) + 1 := wrap_i64 (by omega) (by omega)
    refine loopM_at l_lex_reader_until_0.eq_1 ?_
    simp [r0, r1, r5, pinned hp, hx, encR, hlt, h1, h2]
    have hc := hq pre c t hi fl hfl
    rw [List.append_assoc] at hc
    refine callM_of hc ?_
    cases hqc : q (c :: t) with
    | true =>
      simp [pinned hp]
      refine hE _ (by simp [r5, hu, upto, hqc])
    | false =>
      simp [pinned hp, r5, hw]
      refine ih (pre ++ [c]) _ (by rw [hi]; simp) (by rw [hu]; simp [upto, hqc]; omega) ?_ ?_ ?_
      all_goals simp [r0, r1, hxs, h3, h4]
end
def S_until (P : Program) (K : Knobs) (X : ExtV) (f : Nat) : Prop := ∀ (fl : Nat) (σ : St) (x : Nat) (rest : Str) (p : Pos) (g : Nat) (first caps : List V) (q : Str → Bool), fl ≤ σ.size → σ.pin ≤ σ.size → σ.get x = some (.cells (encR rest p)) → rest.length ≤ 16777216 → first.map V.strip = first → caps.map V.strip = caps → V.lows σ.size first = true → V.lows σ.size caps = true →
    (∀ (pre : Str) (c : UInt8) (t : Str), rest = pre ++ c :: t → ∀ fl', fl' ≤ σ.size → Big P K X (.call fl' g (first ++ [.int .i64 pre.length] ++ caps) σ (.bool (q (c :: t))) σ)) →
    Big P K X (.call fl f [.ptr x 0, .func g first caps] σ (.int .i64 (upto q rest)) σ)
theorem until_ok {f : Nat} {qt : Bool} (H : Has P K f qt c_lex_reader_until) : S_until P K X f := by
  intro fl σ x rest p g first caps q hfl hp hx hs h1 h2 h3 h4 hq
  have hxs := get_lt hx
  refine H_callq H (Nat.le_of_ble_eq_true rfl) hfl fun fl' hf1 hf2 => ?_
  simp [c_lex_reader_until]
  refine until_loop (x := x) (g := g) (first := first) (caps := caps) (q := q) (rest := rest) hf2 hp hx hs h1 h2 h3 h4 hq ?_ rest [] _ rfl (by simp) ?_ ?_ ?_
  · intro ρ' r5
    simp [r5]
  all_goals simp

/-! ### Library functions: what they answer -/
def ixO : Option Nat → Int
  | some i => i
  | none => -1
def indexStr (p : Str) : Str → Option Nat
  | [] => if p.isEmpty then some 0 else none
  | c :: t => if p.isPrefixOf (c :: t) then some 0 else (indexStr p t).map (· + 1)
def S_IndexByte (P : Program) (K : Knobs) (X : ExtV) (f : Nat) : Prop := ∀ (fl : Nat) (σ : St) (s : Str) (c : UInt8), fl ≤ σ.size → s.length ≤ 16777216 → Big P K X (.call fl f [.str s, .int .u8 c.toNat] σ (.int .i64 (ixO (s.findIdx? (· == c)))) σ)
def S_HasPrefix (P : Program) (K : Knobs) (X : ExtV) (f : Nat) : Prop := ∀ (fl : Nat) (σ : St) (s p : Str), fl ≤ σ.size → s.length ≤ 16777216 → Big P K X (.call fl f [.str s, .str p] σ (.bool (p.isPrefixOf s)) σ)
def S_Index (P : Program) (K : Knobs) (X : ExtV) (f : Nat) : Prop := ∀ (fl : Nat) (σ : St) (s p : Str), fl ≤ σ.size → s.length ≤ 16777216 → Big P K X (.call fl f [.str s, .str p] σ (.int .i64 (ixO (indexStr p s))) σ)
def S_IndexAny (P : Program) (K : Knobs) (X : ExtV) (f : Nat) : Prop := ∀ (fl : Nat) (σ : St) (s cs : Str), fl ≤ σ.size → s.length ≤ 16777216 → (∀ c ∈ s, c < 128) → (∀ c ∈ cs, c < 128) → cs.length ≤ 256 → Big P K X (.call fl f [.str s, .str cs] σ (.int .i64 (ixO (s.findIdx? (cs.contains ·)))) σ)

theorem ixO_nonneg (o : Option Nat) : (0 ≤ ixO o) ↔ o.isSome = true := by cases o <;> simp [ixO]
theorem ixO_dec (o : Option Nat) : decide (0 ≤ ixO o) = o.isSome := by cases o <;> simp [ixO]
theorem beq_sym (c d : UInt8) : (d == c) = (c == d) := by
  rw [Bool.eq_iff_iff, beq_iff_eq, beq_iff_eq]
  exact eq_comm
theorem ends_ix (c : UInt8) (t : Str) : ends (c :: t) = (decide (0 ≤ ixO (([32, 10, 123, 125, 59, 91, 93, 34, 35] : Str).findIdx? (· == c))) || ([47, 42] : Str).isPrefixOf (c :: t)) := by
  have h1 : decide (0 ≤ ixO (([32, 10, 123, 125, 59, 91, 93, 34, 35] : Str).findIdx? (· == c))) = ([32, 10, 123, 125, 59, 91, 93, 34, 35] : Str).any (· == c) := by
    rw [ixO_dec, List.findIdx?_isSome]
  have h2 : ([47, 42] : Str).isPrefixOf (c :: t) = begins (c :: t) := by
    cases t with
    | nil => simp [begins, List.isPrefixOf]
    | cons b t => simp [begins, List.isPrefixOf, beq_sym c 47, beq_sym b 42]
  rw [h1, h2]
  unfold ends
  simp only [List.any_cons, List.any_nil, Bool.or_false]
  congr 1
  unfold sign
  by_cases e1 : c = 123
  · subst e1; rfl
  by_cases e2 : c = 125
  · subst e2; rfl
  by_cases e3 : c = 59
  · subst e3; rfl
  by_cases e4 : c = 91
  · subst e4; rfl
  by_cases e5 : c = 93
  · subst e5; rfl
  rw [if_neg e1, if_neg e2, if_neg e3, if_neg e4, if_neg e5]
  have n1 : ((123 : UInt8) == c) = false := by simpa using fun e => e1 e.symm
  have n2 : ((125 : UInt8) == c) = false := by simpa using fun e => e2 e.symm
  have n3 : ((59 : UInt8) == c) = false := by simpa using fun e => e3 e.symm
  have n4 : ((91 : UInt8) == c) = false := by simpa using fun e => e4 e.symm
  have n5 : ((93 : UInt8) == c) = false := by simpa using fun e => e5 e.symm
  rw [n1, n2, n3, n4, n5]
  rw [beq_sym c 32, beq_sym c 10, beq_sym c 34, beq_sym c 35]
  simp [Bool.or_assoc]
def S_ends (P : Program) (K : Knobs) (X : ExtV) (f : Nat) : Prop := ∀ (fl : Nat) (σ : St) (x : Nat) (rest pre : Str) (p : Pos) (c : UInt8) (t : Str), fl ≤ σ.size → σ.pin ≤ σ.size → σ.get x = some (.cells (encR rest p)) → rest.length ≤ 16777216 → rest = pre ++ c :: t →
    Big P K X (.call fl f [.ptr x 0, .int .i64 pre.length] σ (.bool (ends (c :: t))) σ)
theorem ends_ok {f fi fh : Nat} {qt : Bool} (hi : S_IndexByte P K X fi) (hh : S_HasPrefix P K X fh) (H : Has P K f qt (c_lex_reader_ends fi fh)) : S_ends P K X f := by
  intro fl σ x rest pre p c t hfl hp hx hs hr
  have hxs := get_lt hx
  refine H_callq H (Nat.le_of_ble_eq_true rfl) hfl fun fl' hf1 hf2 => ?_
  have hlen : pre.length < rest.length := by rw [hr]; simp
  have hget : rest[pre.length]? = some c := by rw [hr]; simp
  have hgi : rest[pre.length] = c := by
    rw [List.getElem?_eq_getElem hlen] at hget
    exact Option.some.inj hget
  have hdr : rest.drop pre.length = c :: t := by rw [hr]; simp
  have hle : pre.length ≤ rest.length := by omega
  have htk : (c :: t).take (rest.length - pre.length) = c :: t := List.take_of_length_le (by rw [← hdr]; simp)
  rw [ends_ix]
  simp [c_lex_reader_ends, hx, encR, hlen, hgi]
  refine callM_of (hi _ _ _ c hf2 (by simp)) ?_
  by_cases h : 0 ≤ ixO (([32, 10, 123, 125, 59, 91, 93, 34, 35] : Str).findIdx? (· == c))
  · simp [h]
  · simp [h, hx, encR, hle, hdr, htk]
    refine callM_of (hh _ _ _ _ hf2 (by rw [← hdr]; simp; omega)) ?_
    simp [h]
end Go.Vw.Wm
end
section
/- The walk of a token. -/
namespace Go.Vw.Wm
open Go Go.RowKit Go.Abs Go.Vw Lx Tr
set_option maxRecDepth 20000
set_option linter.unusedSimpArgs false
set_option linter.unusedVariables false
variable {P : Program} {K : Knobs} {X : ExtV}

theorem pre_begins (c : UInt8) (t : Str) : ([47, 42] : Str).isPrefixOf (c :: t) = begins (c :: t) := by
  cases t with
  | nil => simp [begins, List.isPrefixOf]
  | cons b t => simp [begins, List.isPrefixOf, beq_sym c 47, beq_sym b 42]
theorem index_close : ∀ (l : Str), indexStr [42, 47] l = closeAt l
  | [] => rfl
  | a :: t => by
    have h : ([42, 47] : Str).isPrefixOf (a :: t) = (a == 42 && t.head? == some 47) := by
      cases t with
      | nil => simp [List.isPrefixOf]
      | cons b t => simp [List.isPrefixOf, beq_sym a 42, beq_sym b 47]
    simp only [indexStr, closeAt, h, index_close t]
theorem quote_ix : ∀ (t : Str), match t.findIdx? (([34, 10] : Str).contains ·) with
    | some n => n = upto isQuoteOrNl t ∧ ∃ d r, t.drop n = d :: r ∧ t[n]? = some d ∧ (d = 34 ∨ d = 10)
    | none => t.drop (upto isQuoteOrNl t) = []
  | [] => by simp [upto]
  | c :: t => by
    have ih := quote_ix t
    rw [List.findIdx?_cons]
    have hc : isQuoteOrNl (c :: t) = ([34, 10] : Str).contains c := by
      simp [isQuoteOrNl, List.contains, List.elem]
      cases h1 : (c == 34) <;> cases h2 : (c == 10) <;> rfl
    by_cases h : ([34, 10] : Str).contains c = true
    · rw [if_pos h]
      simp only [upto, hc, h, if_true]
      refine ⟨trivial, c, t, rfl, rfl, ?_⟩
      simpa using h
    · rw [if_neg h]
      have h' : ([34, 10] : Str).contains c = false := by simpa using h
      cases hf : t.findIdx? (([34, 10] : Str).contains ·) with
      | none =>
        rw [hf] at ih
        simp only [Option.map_none, upto, hc, h', Bool.false_eq_true, if_false, List.drop_succ_cons]
        exact ih
      | some n =>
        rw [hf] at ih
        obtain ⟨q1, d, r, q2, q3, q4⟩ := ih
        simp only [Option.map_some, upto, hc, h', Bool.false_eq_true, if_false]
        exact ⟨by rw [q1], d, r, by simpa using q2, by simpa using q3, q4⟩
theorem sign_ix (c : UInt8) : ixO (([123, 125, 59, 91, 93] : Str).findIdx? (· == c)) = if sign c = 0 then -1 else (sign c : Int) - 2 := by
  unfold sign
  by_cases e1 : c = 123
  · subst e1; rfl
  by_cases e2 : c = 125
  · subst e2; rfl
  by_cases e3 : c = 59
  · subst e3; rfl
  by_cases e4 : c = 91
  · subst e4; rfl
  by_cases e5 : c = 93
  · subst e5; rfl
  rw [if_neg e1, if_neg e2, if_neg e3, if_neg e4, if_neg e5]
  have n1 : ((123 : UInt8) == c) = false := by simpa using fun e => e1 e.symm
  have n2 : ((125 : UInt8) == c) = false := by simpa using fun e => e2 e.symm
  have n3 : ((59 : UInt8) == c) = false := by simpa using fun e => e3 e.symm
  have n4 : ((91 : UInt8) == c) = false := by simpa using fun e => e4 e.symm
  have n5 : ((93 : UInt8) == c) = false := by simpa using fun e => e5 e.symm
  simp [List.findIdx?_cons, n1, n2, n3, n4, n5, ixO]
theorem sign_le (c : UInt8) : sign c ≤ 6 := by
  unfold sign
  repeat' split
  all_goals omega
theorem sign_two (c : UInt8) : sign c = 0 ∨ 2 ≤ sign c := by
  unfold sign
  repeat' split
  all_goals omega

def S_nl (P : Program) (K : Knobs) (X : ExtV) (f : Nat) : Prop := ∀ (fl : Nat) (σ : St) (x b : Nat) (rest pre : Str) (p : Pos) (c : UInt8) (t : Str), fl ≤ σ.size → σ.get b = some (.cells [.ptr x 0]) → σ.get x = some (.cells (encR rest p)) → rest = pre ++ c :: t →
    Big P K X (.call fl f [.int .i64 pre.length, .ptr b 0] σ (.bool (isNl (c :: t))) σ)
theorem nl_ok {f : Nat} {qt : Bool} (H : Has P K f qt c_lex_reader_token_1) : S_nl P K X f := by
  intro fl σ x b rest pre p c t hfl hb hx hr
  refine H_callq H (Nat.le_of_ble_eq_true rfl) hfl fun fl' hf1 hf2 => ?_
  have hlen : pre.length < rest.length := by rw [hr]; simp
  have hget : rest[pre.length]? = some c := by rw [hr]; simp
  have hgi : rest[pre.length] = c := by
    rw [List.getElem?_eq_getElem hlen] at hget
    exact Option.some.inj hget
  have hq : isNl (c :: t) = decide ((c.toNat : Int) = 10) := by
    unfold isNl
    rw [Bool.eq_iff_iff]
    simp [u8_10]
  rw [hq]
  simp [c_lex_reader_token_1, hx, hb, encR, hlen, hgi]

def tokOut (p : Pos) : T1 → V
  | .bad => .tuple [.agg (encT ⟨1, [], p⟩), .bool false, .int .i64 71]
  | .skip _ => .tuple [.agg (encT ⟨1, [], p⟩), .bool false, .int .i64 0]
  | .tok kd tx _ => .tuple [.agg (encT ⟨kd, tx, p⟩), .bool true, .int .i64 0]
def tokTook : T1 → Nat
  | .bad => 0
  | .skip n => n
  | .tok _ _ n => n
def S_token (P : Program) (K : Knobs) (X : ExtV) (f : Nat) : Prop := ∀ (fl : Nat) (σ : St) (x : Nat) (c : UInt8) (t : Str) (p : Pos), fl ≤ x → σ.pin ≤ σ.size → σ.get x = some (.cells (encR (c :: t) p)) → (c :: t).length ≤ 65536 → posOK p (c :: t).length → (∀ d ∈ c :: t, d < 128) →
    Big P K X (.call fl f [.ptr x 0] σ (tokOut p (tok1 (c :: t))) (σ.put x (.cells (encR ((c :: t).drop (tokTook (tok1 (c :: t)))) (advs p ((c :: t).take (tokTook (tok1 (c :: t)))))))))
theorem token_ok {f fi ft fu fh fx fa fn fe : Nat} (hi : S_IndexByte P K X fi) (ht : S_take P K X ft) (hu : S_until P K X fu) (hh : S_HasPrefix P K X fh) (hx' : S_Index P K X fx) (ha : S_IndexAny P K X fa) (hnl : S_nl P K X fn) (he : S_ends P K X fe)
    (H : Has P K f false (c_lex_reader_token fi ft fu fh fx fa fn fe)) : S_token P K X f := by
  intro fl σ x c t p hfl hp hx hs hb hasc
  have hxs := get_lt hx
  have hb' : ∀ m, m ≤ (c :: t).length → posOK p m := by
    intro m hm
    unfold posOK at hb ⊢
    omega
  have h : ∀ (R : V → St → Prop), R (tokOut p (tok1 (c :: t))) (σ.put x (.cells (encR ((c :: t).drop (tokTook (tok1 (c :: t)))) (advs p ((c :: t).take (tokTook (tok1 (c :: t)))))))) → ∃ v σ', R v σ' ∧ Big P K X (.call fl f [.ptr x 0] σ v σ') := by
    intro R hR
    refine H_callE H (Nat.le_of_ble_eq_true rfl) ?_
    simp [c_lex_reader_token, hx, encR, encP, near hfl hxs]
    refine callM_of (hi _ _ _ c (by simp [near hfl hxs]) (by simp)) ?_
    rw [sign_ix]
    unfold tok1 at hR
    simp only at hR
    have e32 : c = 32 ↔ (c.toNat : Int) = 32 := u8_eq
    have e10 : c = 10 ↔ (c.toNat : Int) = 10 := u8_eq
    have e35 : c = 35 ↔ (c.toNat : Int) = 35 := u8_eq
    have e34 : c = 34 ↔ (c.toNat : Int) = 34 := u8_eq
    by_cases h1 : c = 32 ∨ c = 10
    · rw [if_pos h1] at hR
      by_cases h32 : c = 32
      · have i32 := e32.1 h32
        simp [i32, near hfl hxs]
        refine callM_of (ht _ _ _ (c :: t) p 1 hfl (by simp [pinned hp]) (by simp [near hfl hxs, hx, encR, encP, i32]) (by simp) (by omega) (hb' 1 (by simp))) ?_
        simp [near hfl hxs, pinned hp]
        simpa [tokOut, tokTook, encT, encP] using hR
      · have h10 := h1.resolve_left h32
        have i10 := e10.1 h10
        simp [i10, near hfl hxs]
        refine callM_of (ht _ _ _ (c :: t) p 1 hfl (by simp [pinned hp]) (by simp [near hfl hxs, hx, encR, encP, i10]) (by simp) (by omega) (hb' 1 (by simp))) ?_
        simp [near hfl hxs, pinned hp]
        simpa [tokOut, tokTook, encT, encP] using hR
    · rw [if_neg h1] at hR
      have n32 : ¬ ((c.toNat : Int) = 32) := fun e => h1 (.inl (e32.2 e))
      have n10 : ¬ ((c.toNat : Int) = 10) := fun e => h1 (.inr (e10.2 e))
      by_cases h35 : c = 35
      · rw [if_pos h35] at hR
        have i35 := e35.1 h35
        simp [i35, near hfl hxs]
        refine callM_of (hu _ _ x (c :: t) p fn [] [.ptr σ.size 0] isNl (by simp [near hfl hxs]) (by simp [pinned hp]) (by simp [near hfl hxs, hx, encR, encP]) (by omega) rfl rfl (by simp) (by simp) ?_) ?_
        · intro pre d r hr fl' hfl'
          have := hnl fl' _ x σ.size (c :: t) pre p d r hfl' (by simp) (by simp [near hfl hxs, hx, encR, encP]) hr
          simpa using this
        · have hup := upto_le isNl (c :: t)
          simp [near hfl hxs]
          refine callM_of (ht _ _ _ (c :: t) p (upto isNl (c :: t)) hfl (by simp [pinned hp]) (by simp [near hfl hxs, hx, encR, encP]) hup (by omega) (hb' _ hup)) ?_
          simp [near hfl hxs, pinned hp]
          simpa [tokOut, tokTook, encT, encP] using hR
      · rw [if_neg h35] at hR
        have n35 : ¬ ((c.toNat : Int) = 35) := fun e => h35 (e35.2 e)
        simp [n32, n10, n35, near hfl hxs, hx, encR, encP]
        refine callM_of (hh _ _ (c :: t) _ (by simp [near hfl hxs]) (by omega)) ?_
        rw [pre_begins]
        by_cases hbg : begins (c :: t) = true
        · rw [if_pos hbg] at hR
          rw [hbg]
          cases t with
          | nil => simp [begins] at hbg
          | cons b t2 =>
            simp [near hfl hxs, hx, encR, encP]
            refine callM_of (hx' _ _ _ _ (by simp [near hfl hxs]) (by simp at hs ⊢; omega)) ?_
            rw [index_close]
            simp only [List.drop_succ_cons, List.drop_zero] at hR
            cases hcl : closeAt t2 with
            | none =>
              rw [hcl] at hR
              simp [ixO, near hfl hxs, pinned hp]
              have := put_get hx
              simp only [encR, encP] at this
              simpa [tokOut, tokTook, encT, encP, encR, Lx.advs, this] using hR
            | some m =>
              rw [hcl] at hR
              have hcm := closeAt_le hcl
              have hm0 : ¬ ((m : Int) < 0) := by omega
              have hw : IntKind.i64.wrap ((m : Int) + 4) = ((m + 4 : Nat) : Int) := wrap_i64 (by omega) (by simp at hs; omega)
              simp [ixO, near hfl hxs, pinned hp, hm0, hw]
              refine callM_of (ht _ _ _ (c :: b :: t2) p (m + 4) hfl (by simp [pinned hp]) (by simp [near hfl hxs, hx, encR, encP]) (by simp; omega) (by omega) (hb' _ (by simp; omega))) ?_
              simp [near hfl hxs, pinned hp]
              simpa [tokOut, tokTook, encT, encP] using hR
        · rw [if_neg hbg] at hR
          have hbg' : begins (c :: t) = false := by simpa using hbg
          rw [hbg']
          by_cases h34 : c = 34
          · rw [if_pos h34] at hR
            have i34 := e34.1 h34
            simp [i34, near hfl hxs, hx, encR, encP]
            refine callM_of (ha _ _ t _ (by simp [near hfl hxs]) (by simp at hs ⊢; omega) (fun d hd => hasc d (by simp [hd])) (by decide) (by decide)) ?_
            have hqi := quote_ix t
            cases hf : t.findIdx? (([34, 10] : Str).contains ·) with
            | none =>
              rw [hf] at hqi
              simp only at hqi
              rw [hqi] at hR
              simp [ixO, near hfl hxs, pinned hp]
              have := put_get hx
              simp only [encR, encP] at this
              simpa [tokOut, tokTook, encT, encP, encR, Lx.advs, this] using hR
            | some m =>
              rw [hf] at hqi
              obtain ⟨q1, d, r, q2, q3, q4⟩ := hqi
              subst q1
              have hml : upto isQuoteOrNl t < t.length := (List.getElem?_eq_some_iff.1 q3).1
              have hmi : t[upto isQuoteOrNl t] = d := (List.getElem?_eq_some_iff.1 q3).2
              have hm0 : ¬ ((upto isQuoteOrNl t : Int) < 0) := by omega
              have hw1 : IntKind.i64.wrap ((upto isQuoteOrNl t : Int) + 1) = ((upto isQuoteOrNl t + 1 : Nat) : Int) := wrap_i64 (by omega) (by simp at hs; omega)
              have hw2 : IntKind.i64.wrap ((upto isQuoteOrNl t : Int) + 2) = ((upto isQuoteOrNl t + 2 : Nat) : Int) := wrap_i64 (by omega) (by simp at hs; omega)
              have hn1 : (0 : Int) ≤ (upto isQuoteOrNl t : Int) + 1 := by omega
              rw [q2] at hR
              rcases q4 with rfl | rfl
              · simp [ixO, near hfl hxs, pinned hp, hm0, hn1, hw1, hw2, hx, encR, encP, hml, hmi]
                refine callM_of (ht _ _ _ (c :: t) p (upto isQuoteOrNl t + 2) hfl (by simp [pinned hp]) (by simp [near hfl hxs, hx, encR, encP, i34]) (by simp; omega) (by omega) (hb' _ (by simp; omega))) ?_
                have hmin : upto isQuoteOrNl t ≤ min (upto isQuoteOrNl t + 1) t.length := by omega
                have htk : (t.take (upto isQuoteOrNl t + 1)).take (upto isQuoteOrNl t) = t.take (upto isQuoteOrNl t) := by rw [List.take_take, Nat.min_eq_left (by omega)]
                simp [near hfl hxs, pinned hp, hw1, hn1, hmin]
                simpa [tokOut, tokTook, encT, encP, htk, Nat.min_eq_left] using hR
              · simp [ixO, near hfl hxs, pinned hp, hm0, hn1, hw1, hw2, hx, encR, encP, hml, hmi]
                have := put_get hx
                simp only [encR, encP] at this
                simpa [tokOut, tokTook, encT, encP, encR, Lx.advs, this] using hR
          · rw [if_neg h34] at hR
            have n34 : ¬ ((c.toNat : Int) = 34) := fun e => h34 (e34.2 e)
            simp [n34, near hfl hxs]
            by_cases hsg : sign c = 0
            · rw [if_neg (by simpa using hsg)] at hR
              simp [hsg]
              refine callM_of (hu _ _ x (c :: t) p fe [.ptr x 0] [] ends (by simp [near hfl hxs]) (by simp [pinned hp]) (by simp [near hfl hxs, hx, encR, encP]) (by omega) rfl rfl (by simp [near hfl hxs]) (by simp) ?_) ?_
              · intro pre d r hr fl' hfl'
                have := he fl' _ x (c :: t) pre p d r hfl' (by simp [pinned hp]) (by simp [near hfl hxs, hx, encR, encP]) (by omega) hr
                simpa using this
              · have hup := upto_le ends (c :: t)
                simp [near hfl hxs]
                refine callM_of (ht _ _ _ (c :: t) p (upto ends (c :: t)) hfl (by simp [pinned hp]) (by simp [near hfl hxs, hx, encR, encP]) hup (by omega) (hb' _ hup)) ?_
                simp [near hfl hxs, pinned hp]
                simpa [tokOut, tokTook, encT, encP] using hR
            · rw [if_pos hsg] at hR
              have h2 := (sign_two c).resolve_left hsg
              have h6 := sign_le c
              have hw1 : IntKind.u8.wrap ((sign c : Int) - 2) = (sign c : Int) - 2 := wrap_u8 (by omega) (by omega)
              have hw2 : IntKind.u8.wrap (2 + ((sign c : Int) - 2)) = (sign c : Int) := by rw [show (2 : Int) + ((sign c : Int) - 2) = sign c by omega]; exact wrap_u8 (by omega) (by omega)
              have hge : (2 : Int) ≤ (sign c : Int) := by omega
              simp [hsg, hge, hw1, hw2, near hfl hxs]
              refine callM_of (ht _ _ _ (c :: t) p 1 hfl (by simp [pinned hp]) (by simp [near hfl hxs, hx, encR, encP]) (by simp) (by omega) (hb' 1 (by simp))) ?_
              simp [near hfl hxs, pinned hp]
              simpa [tokOut, tokTook, encT, encP] using hR
  obtain ⟨v, σ', ⟨rfl, rfl⟩, h2⟩ := h (fun v σ' => v = tokOut p (tok1 (c :: t)) ∧ σ' = σ.put x (.cells (encR ((c :: t).drop (tokTook (tok1 (c :: t)))) (advs p ((c :: t).take (tokTook (tok1 (c :: t)))))))) ⟨rfl, rfl⟩
  exact h2
end Go.Vw.Wm
end
section
/- What is read can be written; what was written passes the check. -/
namespace Tr
open Lx

/-! ### The check -/
def okByte (c : UInt8) : Prop := c = 10 ∨ (¬ c < 32 ∧ ¬ c > 126)

theorem checkL_ok_bytes : ∀ (l : Str) (p : Pos), (checkL p l).2 = 0 → ∀ c ∈ l, okByte c
  | [], _, _, c, hc => by simp at hc
  | a :: l, p, h, c, hc => by
    rw [checkL] at h
    split at h
    · simp at h
    · split at h
      · rename_i ha
        rcases List.mem_cons.1 hc with rfl | hc
        · exact .inl ha
        · exact checkL_ok_bytes l _ h c hc
      · split at h
        · simp at h
        · rename_i ha hb
          simp only [not_or] at hb
          rcases List.mem_cons.1 hc with rfl | hc
          · exact .inr hb
          · exact checkL_ok_bytes l _ h c hc

theorem check_ok_bytes {l : Str} (h : (check l).2 = 0) : ∀ c ∈ l, okByte c := by
  unfold check at h
  split at h
  · simp at h
  · exact checkL_ok_bytes l _ h

theorem checkL_ok : ∀ (l : Str) (p : Pos), (∀ c ∈ l, okByte c) → p.line + (l.count 10 : Nat) ≤ 4096 → checkL p l = (⟨0, 0⟩, 0)
  | [], _, _, _ => rfl
  | a :: l, p, h, hl => by
    have h1 : p.line + (l.count 10 : Nat) ≤ 4096 := by
      rw [List.count_cons] at hl; split at hl <;> omega
    rw [checkL, if_neg (by omega)]
    split
    · rename_i ha
      subst ha
      refine checkL_ok l _ (fun c hc => h c (List.mem_cons_of_mem _ hc)) ?_
      rw [List.count_cons] at hl
      simp at hl ⊢
      omega
    · rename_i ha
      rcases h a (List.mem_cons_self) with hb | hb
      · exact absurd hb ha
      · rw [if_neg (by simpa [not_or] using hb)]
        exact checkL_ok l _ (fun c hc => h c (List.mem_cons_of_mem _ hc)) h1

theorem check_ok {l : Str} (h : ∀ c ∈ l, okByte c) (h1 : l.length ≤ 65536) (h2 : l.count 10 ≤ 4095) : check l = (⟨0, 0⟩, 0) := by
  unfold check
  rw [if_neg (by omega)]
  exact checkL_ok l _ h (by simp; omega)

/-! ### What is written, byte by byte -/
theorem isBad_ok {c : UInt8} (h : isBad c = false) : okByte c ∧ c ≠ 10 := by
  simp only [isBad, Bool.or_eq_false_iff, decide_eq_false_iff_not] at h
  exact ⟨.inr h.1, by rintro rfl; exact h.1.1 (by decide)⟩

theorem quoted_ok {w q : Str} (h : quoted w = some q) : (∀ c ∈ q, okByte c) ∧ q.count 10 = 0 := by
  have key : ∀ v : Str, v.any isBad = false → (∀ c ∈ v, okByte c) ∧ v.count 10 = 0 := by
    intro v hv
    have hv' : ∀ c ∈ v, isBad c = false := by simpa using hv
    exact ⟨fun c hc => (isBad_ok (hv' c hc)).1, List.count_eq_zero.2 fun hc => (isBad_ok (hv' 10 hc)).2 rfl⟩
  unfold quoted at h
  split at h
  · cases h
  · rename_i hb
    have hb : w.any isBad = false := by simpa using hb
    split at h
    · simp only [Option.some.injEq] at h
      subst h
      have hk := key w hb
      constructor
      · intro c hc
        simp only [List.mem_append, List.mem_cons, List.not_mem_nil, or_false] at hc
        rcases hc with (rfl | hc) | rfl
        · exact .inr (by decide)
        · exact hk.1 c hc
        · exact .inr (by decide)
      · simp [List.count_append, hk.2]
    · simp only [Option.some.injEq] at h
      subst h
      exact key w hb

theorem quotes_ok : ∀ (ws qs : List Str), quotes ws = some qs → (∀ c ∈ joinSp qs, okByte c) ∧ (joinSp qs).count 10 = 0
  | [], qs, h => by simp [quotes] at h; subst h; simp [joinSp]
  | w :: ws, qs, h => by
    rw [quotes] at h
    cases hw : quoted w with
    | none => rw [hw] at h; simp at h
    | some q =>
      cases hr : quotes ws with
      | none => rw [hw, hr] at h; simp at h
      | some qs2 =>
        rw [hw, hr] at h
        simp only [Option.some.injEq] at h
        subst h
        have a := quoted_ok hw
        have b := quotes_ok ws qs2 hr
        cases qs2 with
        | nil => exact a
        | cons x y =>
          have hj : joinSp (q :: x :: y) = q ++ 32 :: joinSp (x :: y) := rfl
          rw [hj]
          constructor
          · intro c hc
            simp only [List.mem_append, List.mem_cons] at hc
            rcases hc with hc | rfl | hc
            · exact a.1 c hc
            · exact .inr (by decide)
            · exact b.1 c hc
          · simp [List.count_append, a.2, b.2]

theorem blanks_ok (n : Nat) : (∀ c ∈ blanks n, okByte c) ∧ (blanks n).count 10 = 0 := by
  unfold blanks
  constructor
  · intro c hc
    have := List.eq_of_mem_replicate hc
    subst this
    exact .inr (by decide)
  · simp [List.count_replicate]

mutual
/-- How many statements there are. -/
def size1 : Node → Nat
  | .mk _ _ _ ks => 1 + sizes ks
def sizes : List Node → Nat
  | [] => 0
  | n :: r => size1 n + sizes r
end

theorem ok_append {a b : Str} (ha : ∀ c ∈ a, okByte c) (hb : ∀ c ∈ b, okByte c) : ∀ c ∈ a ++ b, okByte c := by
  intro c hc
  rcases List.mem_append.1 hc with h | h
  · exact ha c h
  · exact hb c h

mutual
theorem pr1_ok : ∀ (n : Node) (d : Nat) (t : Str), pr1 d n = some t → (∀ c ∈ t, okByte c) ∧ t.count 10 ≤ 2 * size1 n
  | .mk ws ps b ks, d, t, h => by
    rw [pr1] at h
    split at h
    · cases h
    · cases hq : quotes ws with
      | none => rw [hq] at h; cases h
      | some qs =>
        rw [hq] at h
        simp only at h
        have a := blanks_ok (4 * d)
        have q := quotes_ok ws qs hq
        split at h
        · cases hk : prs (d + 1) ks with
          | none => rw [hk] at h; cases h
          | some k =>
            rw [hk] at h
            simp only [Option.some.injEq] at h
            subst h
            have kk := prs_ok ks (d + 1) k hk
            constructor
            · refine ok_append (ok_append (ok_append (ok_append (ok_append a.1 q.1) ?_) kk.1) a.1) ?_
              · intro c hc; simp at hc; rcases hc with rfl | rfl | rfl <;> first | exact .inl rfl | exact .inr (by decide)
              · intro c hc; simp at hc; rcases hc with rfl | rfl <;> first | exact .inl rfl | exact .inr (by decide)
            · simp only [List.count_append, a.2, q.2, size1]
              have := kk.2
              simp
              omega
        · simp only [Option.some.injEq] at h
          subst h
          constructor
          · refine ok_append (ok_append a.1 q.1) ?_
            intro c hc; simp at hc; rcases hc with rfl | rfl <;> first | exact .inl rfl | exact .inr (by decide)
          · simp only [List.count_append, a.2, q.2, size1]
            simp
            omega
theorem prs_ok : ∀ (l : List Node) (d : Nat) (t : Str), prs d l = some t → (∀ c ∈ t, okByte c) ∧ t.count 10 ≤ 2 * sizes l
  | [], d, t, h => by
    simp only [prs, Option.some.injEq] at h
    subst h
    simp
  | n :: l, d, t, h => by
    rw [prs] at h
    cases h1 : pr1 d n with
    | none => rw [h1] at h; simp at h
    | some a =>
      cases h2 : prs d l with
      | none => rw [h1, h2] at h; simp at h
      | some b =>
        rw [h1, h2] at h
        simp only [Option.some.injEq] at h
        subst h
        have ha := pr1_ok n d a h1
        have hb := prs_ok l d b h2
        refine ⟨ok_append ha.1 hb.1, ?_⟩
        simp only [List.count_append, sizes]
        omega
end

/-! ### What is read can be written -/
def goodTok (t : Tok) : Prop := t.kind = 1 → t.text.any isBad = false

theorem okBad {c : UInt8} (h : okByte c) (h1 : c ≠ 10) (h2 : c ≠ 34) : isBad c = false := by
  rcases h with h | ⟨h3, h4⟩
  · exact absurd h h1
  · simp [isBad, h2, h3, h4]

theorem upto_not (q : Str → Bool) : ∀ (l : Str), ∀ c ∈ l.take (upto q l), ∃ t, q (c :: t) = false ∧ c ∈ l
  | [], c, hc => by simp at hc
  | a :: l, c, hc => by
    rw [upto] at hc
    split at hc
    · simp at hc
    · rename_i hq
      rw [List.take_succ_cons] at hc
      rcases List.mem_cons.1 hc with rfl | hc
      · exact ⟨l, by simpa using hq, List.mem_cons_self⟩
      · obtain ⟨t, h1, h2⟩ := upto_not q l c hc
        exact ⟨t, h1, List.mem_cons_of_mem _ h2⟩

theorem tok1_good {l : Str} (hl : ∀ c ∈ l, okByte c) {kd : Nat} {tx : Str} {k : Nat} (h : tok1 l = .tok kd tx k) : kd = 1 → tx.any isBad = false := by
  intro hk
  subst hk
  cases l with
  | nil => simp [tok1] at h
  | cons c t =>
    simp only [tok1] at h
    split at h
    · cases h
    · split at h
      · cases h
      · split at h
        · split at h <;> cases h
        · split at h
          · split at h
            · injection h with _ h _
              subst h
              simp only [List.any_eq_false, Bool.not_eq_true]
              intro x hx
              obtain ⟨t', h1, h2⟩ := upto_not _ _ x hx
              simp only [isQuoteOrNl, List.head?_cons, Bool.or_eq_false_iff, beq_eq_false_iff_ne, ne_eq, Option.some.injEq] at h1
              exact okBad (hl x (List.mem_cons_of_mem _ h2)) h1.2 h1.1
            · cases h
          · split at h
            · rename_i hs
              injection h with h1 h2 _
              exfalso
              revert h1
              unfold sign
              repeat' split
              all_goals decide
            · injection h with _ h _
              subst h
              simp only [List.any_eq_false, Bool.not_eq_true]
              intro x hx
              obtain ⟨t', h1, h2⟩ := upto_not _ _ x hx
              simp only [ends, Bool.or_eq_false_iff, beq_eq_false_iff_ne, ne_eq] at h1
              exact okBad (hl x h2) h1.1.1.1.1.2 h1.1.1.1.2

theorem toks_good : ∀ (n : Nat) (l : Str) (p : Pos) (ts : List Tok), l.length ≤ n → (∀ c ∈ l, okByte c) → toks p l = .ok ts → ∀ t ∈ ts, goodTok t
  | _, [], p, ts, _, _, h => by
    rw [toks_nil] at h
    injection h with h
    subst h
    simp
  | 0, _ :: _, _, _, h, _, _ => by simp at h
  | n + 1, c :: t, p, ts, hn, hl, h => by
    have hk := tok1_took c t
    rw [toks_cons] at h
    have hd : ∀ k, ∀ x ∈ (c :: t).drop k, okByte x := fun k x hx => hl x (List.mem_of_mem_drop hx)
    cases he : tok1 (c :: t) with
    | bad => rw [he] at h; cases h
    | skip k =>
      rw [he] at h hk
      simp only [T1.took] at hk
      exact toks_good n _ _ ts (by simp at hn ⊢; omega) (hd k) h
    | tok kd tx k =>
      rw [he] at h hk
      simp only [T1.took] at hk
      simp only at h
      cases hr : toks (advs p ((c :: t).take k)) ((c :: t).drop k) with
      | err q e => rw [hr] at h; cases h
      | ok r =>
        rw [hr] at h
        simp only [Res.push] at h
        injection h with h
        subst h
        intro x hx
        rcases List.mem_cons.1 hx with rfl | hx
        · exact tok1_good hl he
        · exact toks_good n _ _ r (by simp at hn ⊢; omega) (hd k) hr x hx

mutual
/-- Can a statement be written? -/
def can1 : Nat → Node → Bool
  | d, .mk ws _ b ks => !ws.isEmpty && ws.all (fun w => !w.any isBad) && if b then decide (d < 32) && cans (d + 1) ks else ks.isEmpty
def cans : Nat → List Node → Bool
  | _, [] => true
  | d, n :: r => can1 d n && cans d r
end

theorem quotes_can : ∀ (ws : List Str), ws.all (fun w => !w.any isBad) = true → (quotes ws).isSome
  | [], _ => rfl
  | w :: ws, h => by
    simp only [List.all_cons, Bool.and_eq_true, Bool.not_eq_true'] at h
    have hr := quotes_can ws h.2
    have hq : (quoted w).isSome := by
      unfold quoted
      rw [if_neg (by simp [h.1])]
      split <;> rfl
    rw [quotes]
    cases h1 : quoted w with
    | none => rw [h1] at hq; cases hq
    | some q =>
      cases h2 : quotes ws with
      | none => rw [h2] at hr; cases hr
      | some qs => rfl

mutual
theorem pr1_can : ∀ (n : Node) (d : Nat), can1 d n = true → (pr1 d n).isSome
  | .mk ws ps b ks, d, h => by
    simp only [can1, Bool.and_eq_true, Bool.not_eq_true'] at h
    have hq := quotes_can ws h.1.2
    rw [pr1]
    cases b with
    | true =>
      simp only [if_true, Bool.and_eq_true, decide_eq_true_eq] at h
      have hk := prs_can ks (d + 1) h.2.2
      rw [if_neg (by simp [h.1.1]; omega)]
      cases h1 : quotes ws with
      | none => rw [h1] at hq; cases hq
      | some qs =>
        cases h2 : prs (d + 1) ks with
        | none => rw [h2] at hk; cases hk
        | some k => rfl
    | false =>
      simp only [Bool.false_eq_true, if_false] at h
      rw [if_neg (by simp [h.1.1, h.2])]
      cases h1 : quotes ws with
      | none => rw [h1] at hq; cases hq
      | some qs => rfl
theorem prs_can : ∀ (l : List Node) (d : Nat), cans d l = true → (prs d l).isSome
  | [], d, _ => by simp [prs]
  | n :: l, d, h => by
    simp only [cans, Bool.and_eq_true] at h
    have h1 := pr1_can n d h.1
    have h2 := prs_can l d h.2
    rw [prs]
    cases e1 : pr1 d n with
    | none => rw [e1] at h1; cases h1
    | some a =>
      cases e2 : prs d l with
      | none => rw [e2] at h2; cases h2
      | some b => rfl
end

theorem cans_append : ∀ (a b : List Node) (d : Nat), cans d a = true → cans d b = true → cans d (a ++ b) = true
  | [], _, _, _, h => h
  | x :: a, b, d, h1, h2 => by
    simp only [cans, Bool.and_eq_true, List.cons_append] at h1 ⊢
    exact ⟨h1.1, cans_append a b d h1.2 h2⟩

theorem words_good {ts : List Tok} (h : ∀ t ∈ ts, goodTok t) : ((wordsOf ts).map (·.text)).all (fun w => !w.any isBad) = true := by
  simp only [List.all_eq_true, List.mem_map]
  rintro w ⟨t, ht, rfl⟩
  have hp : plain t = true := by
    unfold wordsOf at ht
    have := List.all_takeWhile (p := plain) (l := ts)
    exact List.all_eq_true.1 this t ht
  have hm : t ∈ ts := (List.takeWhile_prefix plain).subset ht
  have := h t hm (by simpa [plain] using hp)
  simp [this]

theorem behind_good {ts : List Tok} (h : ∀ t ∈ ts, goodTok t) : ∀ t ∈ behind ts, goodTok t :=
  fun t ht => h t ((List.dropWhile_suffix plain).subset ht)

theorem wordsOf_ne {t : Tok} {ts : List Tok} (h : t.kind = 1) : wordsOf (t :: ts) ≠ [] := by
  unfold wordsOf
  rw [List.takeWhile_cons_of_pos (by simp [plain, h])]
  simp

theorem pL_can : ∀ (n deep : Nat) (op : Pos) (ts : List Tok), ts.length ≤ n → (∀ t ∈ ts, goodTok t) → deep ≤ 32 → ∀ a r, pL deep op ts = .ok a r → cans deep a = true ∧ ∀ t ∈ r, goodTok t
  | _, deep, op, [], _, _, _, a, r, h => by
    rw [pL_nil] at h
    split at h
    · cases h
    · injection h with h1 h2
      subst h1; subst h2
      simp [cans]
  | 0, _, _, _ :: _, h, _, _, _, _, _ => by simp at h
  | n + 1, deep, op, t :: ts, hn, hg, hd, a, r, h => by
    rw [pL_cons] at h
    split at h
    · split at h
      · injection h with h1 h2
        subst h1; subst h2
        exact ⟨by simp [cans], fun x hx => hg x (List.mem_cons_of_mem _ hx)⟩
      · cases h
    · split at h
      · rename_i h1
        have he : ∃ t' r', t :: ts = t' :: r' ∧ t'.kind = 1 := ⟨t, ts, rfl, h1⟩
        cases hp : pS deep (t :: ts) with
        | err p e => rw [hp] at h; cases h
        | ok b r1 =>
          rw [hp] at h
          simp only at h
          have hlt := pS_left deep _ he hp
          have hS : cans deep b = true ∧ ∀ t ∈ r1, goodTok t := by
            rw [pS_cons deep t ts h1] at hp
            have hb := behind_lt (ts := ts) h1
            have hbg := behind_good hg
            have hwg := words_good hg
            have hwn := wordsOf_ne (ts := ts) h1
            cases hbe : behind (t :: ts) with
            | nil => rw [hbe] at hp; cases hp
            | cons u r2 =>
              rw [hbe] at hp hb hbg
              simp only at hp
              have hr2g : ∀ x ∈ r2, goodTok x := fun x hx => hbg x (List.mem_cons_of_mem _ hx)
              split at hp
              · have hbg2 := behind_good hr2g
                have hwg2 := words_good hr2g
                cases hbr : behind r2 with
                | nil => rw [hbr] at hp; cases hp
                | cons v r3 =>
                  rw [hbr] at hp hbg2
                  simp only at hp
                  split at hp
                  · cases r3 with
                    | nil => cases hp
                    | cons x r4 =>
                      simp only at hp
                      split at hp
                      · injection hp with e1 e2
                        subst e1; subst e2
                        refine ⟨?_, fun y hy => hbg2 y (List.mem_cons_of_mem _ (List.mem_cons_of_mem _ hy))⟩
                        have key : ∀ (l : List Tok), (l.map (·.text)).all (fun w => !w.any isBad) = true → cans deep (leaves (wordsOf (t :: ts)) l) = true := by
                          intro l
                          induction l with
                          | nil => intro _; simp [leaves, cans]
                          | cons y l ih =>
                            intro hl
                            simp only [List.map_cons, List.all_cons, Bool.and_eq_true] at hl
                            simp only [leaves, List.map_cons, cans, Bool.and_eq_true]
                            refine ⟨?_, ih hl.2⟩
                            simp only [leafOf, can1, List.map_append, List.all_append, hwg]
                            simp [hl.1]
                        exact key _ hwg2
                      · cases hp
                  · cases hp
              · split at hp
                · injection hp with e1 e2
                  subst e1; subst e2
                  refine ⟨?_, hr2g⟩
                  simp only [cans, leafOf, can1, hwg]
                  simp [hwn]
                · split at hp
                  · split at hp
                    · cases hp
                    · rename_i hd32
                      cases hq : pL (deep + 1) u.pos r2 with
                      | err p e => rw [hq] at hp; cases hp
                      | ok k r5 =>
                        rw [hq] at hp
                        simp only at hp
                        injection hp with e1 e2
                        subst e1; subst e2
                        have hk := pL_can n (deep + 1) u.pos r2 (by simp at hb hn; omega) hr2g (by omega) k r5 hq
                        refine ⟨?_, hk.2⟩
                        simp only [cans, can1, hwg, hk.1]
                        simp [hwn]
                        omega
                  · cases hp
          cases hq : pL deep op r1 with
          | err p e => rw [hq] at h; cases h
          | ok c r2 =>
            rw [hq] at h
            simp only at h
            injection h with e1 e2
            subst e1; subst e2
            have hk := pL_can n deep op r1 (by simp at hlt hn; omega) hS.2 hd c r2 hq
            exact ⟨cans_append b c deep hS.1 hk.1, hk.2⟩
      · cases h

theorem parse_can {s : Str} {c : List Node} (h : parse s = .ok c) : ∃ t, prs 0 c = some t := by
  unfold parse at h
  cases ht : tokens s with
  | err p e => rw [ht] at h; cases h
  | ok ts =>
    rw [ht] at h
    simp only at h
    unfold tokens at ht
    have hg : ∀ t ∈ ts, goodTok t := by
      cases hc : check s with
      | mk p e =>
        rw [hc] at ht
        simp only at ht
        split at ht
        · rename_i he
          exact toks_good s.length s _ ts (Nat.le_refl _) (check_ok_bytes (by rw [hc]; exact he)) ht
        · cases ht
    rw [parseToks_eq] at h
    cases hp : pL 0 ⟨0, 0⟩ ts with
    | err p e => rw [hp] at h; cases h
    | ok a r =>
      rw [hp] at h
      simp only at h
      injection h with h
      subst h
      have := prs_can a 0 (pL_can ts.length 0 _ ts (Nat.le_refl _) hg (by omega) a r hp).1
      cases hx : prs 0 a with
      | none => rw [hx] at this; cases this
      | some t => exact ⟨t, rfl⟩

/-! ### TreeBack -/
theorem kt_ok {p : Pos} {l : Str} {k : List KT} (h : lexKT l = some k) : ∃ ts, toks p l = .ok ts ∧ ts.map ktOf = k := by
  have := kt_toks p l
  rw [h] at this
  cases ht : toks p l with
  | err q e => rw [ht] at this; cases this
  | ok ts => rw [ht] at this; simp only [kt, Option.some.injEq] at this; exact ⟨ts, rfl, this⟩

theorem back {a : List Node} {t pre suf : Str} (h : prs 0 a = some t) (hpre : ∀ r, lexKT (pre ++ r) = lexKT r) (hsuf : lexKT suf = some [])
    (hb : ∀ c ∈ pre ++ t ++ suf, okByte c) (hl : (pre ++ t ++ suf).length ≤ 65536) (hc : (pre ++ t ++ suf).count 10 ≤ 4095) : ∃ b, parse (pre ++ t ++ suf) = .ok b ∧ sames a b = true := by
  have hk : lexKT (pre ++ t ++ suf) = some (flats a) := by
    rw [List.append_assoc, hpre, lex_prs a 0 t h, hsuf]; simp
  obtain ⟨ts, h1, h2⟩ := kt_ok (p := ⟨1, 1⟩) hk
  obtain ⟨b, h3, h4⟩ := parseToks_back h h2
  refine ⟨b, ?_, h4⟩
  unfold parse tokens
  rw [check_ok hb hl hc]
  simp only [if_true, h1, h3]

theorem back_plain {a : List Node} {t : Str} (h : prs 0 a = some t) (hl : t.length ≤ 65536) (hs : sizes a ≤ 2000) : ∃ b, parse t = .ok b ∧ sames a b = true := by
  have hk := prs_ok a 0 t h
  have := back (pre := []) (suf := []) h (fun _ => rfl) lex_nil (by simpa using hk.1) (by simpa using hl) (by simp; omega)
  simpa using this
end Tr
end
section
/- The walks of tree's writing. -/
namespace Go.Vw.Wm
open Go Go.RowKit Go.Abs Go.Vw Lx Tr
set_option maxRecDepth 20000
set_option linter.unusedSimpArgs false
set_option linter.unusedVariables false
variable {P : Program} {K : Knobs} {X : ExtV}

def S_ContainsAny (P : Program) (K : Knobs) (X : ExtV) (f : Nat) : Prop := ∀ (fl : Nat) (σ : St) (s cs : Str), fl ≤ σ.size → s.length ≤ 16777216 → (∀ c ∈ s, c < 128) → (∀ c ∈ cs, c < 128) → cs.length ≤ 256 → Big P K X (.call fl f [.str s, .str cs] σ (.bool (s.any cs.contains)) σ)
def S_Contains (P : Program) (K : Knobs) (X : ExtV) (f : Nat) : Prop := ∀ (fl : Nat) (σ : St) (s p : Str), fl ≤ σ.size → s.length ≤ 16777216 → Big P K X (.call fl f [.str s, .str p] σ (.bool (indexStr p s).isSome) σ)

theorem isBad_iff (c : UInt8) : isBad c = true ↔ (c.toNat : Int) < 32 ∨ 126 < (c.toNat : Int) ∨ (c.toNat : Int) = 34 := by
  unfold isBad
  have e34 : c = 34 ↔ (c.toNat : Int) = 34 := u8_eq
  simp only [Bool.or_eq_true, decide_eq_true_eq, beq_iff_eq, u8_32, gt_iff_lt, u8_126, e34]
  omega
theorem special_any (c : UInt8) : ([32, 123, 125, 59, 91, 93, 35] : Str).contains c = isSpecial c := by
  unfold isSpecial
  simp [List.contains, List.elem, Bool.or_assoc]
  cases c == 32 <;> cases c == 123 <;> cases c == 125 <;> cases c == 59 <;> cases c == 91 <;> cases c == 93 <;> cases c == 35 <;> rfl
theorem comment_ix : ∀ (w : Str), (indexStr [47, 42] w).isSome = hasComment w
  | [] => rfl
  | c :: t => by
    simp only [indexStr, hasComment, pre_begins]
    cases begins (c :: t) with
    | true => rfl
    | false =>
      simp only [Bool.false_eq_true, if_false, Bool.false_or, ← comment_ix t]
      cases indexStr [47, 42] t <;> rfl
section
variable {wm : TypeId → Bool} {n fl : Nat} {Q : Ex → VEnv → St → Prop} {k : List Lf} {σ : St} {w : Str}
theorem quoted_loop (hfl : fl ≤ σ.size) (hp : σ.pin ≤ σ.size) (hs : w.length ≤ 16777216)
    (hE : ∀ ρ', ρ' 0 = .str w → w.any isBad = false → contM P K X wm n fl true Q k (.exit 0) ρ' σ)
    (hR : ∀ ρ', ρ' 2 = .str [] → ρ' 3 = .bool false → w.any isBad = true → contM P K X wm n fl true Q k .ret ρ' σ) :
    ∀ (l pre : Str) (ρ : VEnv), w = pre ++ l → pre.any isBad = false → ρ 0 = .str w → (∃ o, ρ 7 = .vec o (w.map fun c => [byteCellV c])) → ρ 8 = .int .i64 w.length → ρ 9 = .int .i64 pre.length →
      loopM P K X wm n fl true Q l_tree_quoted_0 k ρ σ := by
  intro l
  induction l with
  | nil =>
    intro pre ρ hi hb r0 r7 r8 r9
    rw [List.append_nil] at hi
    subst hi
    refine loopM_at l_tree_quoted_0.eq_1 ?_
    simp [r8, r9, pinned hp]
    exact hE _ (by simp [r0]) hb
  | cons c t ih =>
    intro pre ρ hi hb r0 r7 r8 r9
    obtain ⟨o, r7⟩ := r7
    have hlen : pre.length < w.length := by rw [hi]; simp
    have hget : w[pre.length]? = some c := by rw [hi]; simp
    have hgi : w[pre.length] = c := by
      rw [List.getElem?_eq_getElem hlen] at hget
      exact Option.some.inj hget
    have hlt : (pre.length : Int) < (w.length : Int) := by omega
    have hw : IntKind.i64.wrap ((pre.length : Int) + 1) = (pre.length : Int) + 1 := wrap_i64 (by omega) (by omega)
    have hbi := isBad_iff c
    have hany : isBad c = true → w.any isBad = true := fun h => by rw [hi]; simp [h]
    refine loopM_at l_tree_quoted_0.eq_1 ?_
    simp [r7, r8, r9, pinned hp, hlen, hlt, hgi, byteCellV]
    by_cases h1 : (c.toNat : Int) < 32
    · simp [h1]
      exact hR _ (by simp) (by simp) (hany (hbi.2 (.inl h1)))
    · by_cases h2 : 126 < (c.toNat : Int)
      · simp [h1, h2]
        exact hR _ (by simp) (by simp) (hany (hbi.2 (.inr (.inl h2))))
      · by_cases h3 : (c.toNat : Int) = 34
        · simp [h1, h2, h3]
          exact hR _ (by simp) (by simp) (hany (hbi.2 (.inr (.inr h3))))
        · simp [h1, h2, h3, hw, pinned hp, r9]
          have hnb : isBad c = false := by
            cases hc : isBad c with
            | false => rfl
            | true => rcases hbi.1 hc with h | h | h <;> contradiction
          refine ih (pre ++ [c]) _ (by rw [hi]; simp) (by simp [hnb]; simpa using hb) ?_ ⟨o, ?_⟩ ?_ ?_
          all_goals simp [r0, r7, r8, byteCellV]
end
def quotedOut (q : Option Str) : V := .tuple [.str (q.getD []), .bool q.isSome]
def S_quoted (P : Program) (K : Knobs) (X : ExtV) (f : Nat) : Prop := ∀ (fl : Nat) (σ : St) (w : Str), fl ≤ σ.size → σ.pin ≤ σ.size → w.length ≤ 16777216 → Big P K X (.call fl f [.str w] σ (quotedOut (Tr.quoted w)) σ)
theorem quoted_ok {f fa fc : Nat} (ha : S_ContainsAny P K X fa) (hc : S_Contains P K X fc) (H : Has P K f false (c_tree_quoted fa fc)) : S_quoted P K X f := by
  intro fl σ w hfl hp hs
  have h : ∀ (R : V → St → Prop), R (quotedOut (Tr.quoted w)) σ → ∃ v σ', R v σ' ∧ Big P K X (.call fl f [.str w] σ v σ') := by
    intro R hR
    refine H_callE H (Nat.le_of_ble_eq_true rfl) ?_
    unfold Tr.quoted at hR
    simp [c_tree_quoted]
    refine quoted_loop (w := w) hfl hp hs ?_ ?_ w [] _ rfl rfl ?_ ⟨!w.isEmpty, ?_⟩ ?_ ?_
    · intro ρ' r0 hb
      rw [if_neg (by simp [hb])] at hR
      have hasc : ∀ c ∈ w, c < 128 := by
        intro d hd
        have hnb : isBad d = false := by
          rw [List.any_eq_false] at hb
          simpa using hb d hd
        have := isBad_iff d
        rw [UInt8.lt_iff_toNat_lt]
        have h128 : (128 : UInt8).toNat = 128 := rfl
        have : ¬ (126 < (d.toNat : Int)) := fun h => by
          rw [(isBad_iff d).2 (.inr (.inl h))] at hnb; cases hnb
        omega
      have hl1 : w.length < 33554432 ∧ w.length + 1 < 33554432 ∧ 1 + w.length ≤ 33554432 := by omega
      have hl2 : w.length + 1 ≤ 33554432 ∧ w.length + 1 + 1 ≤ 33554432 ∧ 1 + w.length + 1 ≤ 33554432 ∧ 1 + w.length < 33554432 := by omega
      have hsp : (w.any (fun x => ([32, 123, 125, 59, 91, 93, 35] : Str).contains x)) = w.any isSpecial := by
        congr 1; funext c; exact special_any c
      by_cases hw : w = []
      · subst hw
        simp [r0]
        simpa [quotedOut] using hR
      · have hw' : w.isEmpty = false := by cases w <;> simp_all
        have hwb : (w == []) = false := by cases w <;> simp_all
        simp [r0, hw, hwb]
        refine callM_of (ha _ _ w _ hfl hs hasc (by decide) (by decide)) ?_
        rw [hsp]
        cases hs1 : w.any isSpecial with
        | true =>
          simp [r0, hl1, hl2]
          simpa [quotedOut, hs1] using hR
        | false =>
          simp [r0]
          refine callM_of (hc _ _ w _ hfl hs) ?_
          rw [comment_ix]
          cases hcm : hasComment w with
          | true =>
            simp [r0, hl1, hl2]
            simpa [quotedOut, hcm] using hR
          | false =>
            simp [r0]
            simpa [quotedOut, hcm, hs1, hw'] using hR
    · intro ρ' r2 r3 hb
      rw [if_pos hb] at hR
      simpa [r2, r3, quotedOut] using hR
    all_goals simp
  obtain ⟨v, σ', ⟨rfl, rfl⟩, h2⟩ := h (fun v σ' => v = quotedOut (Tr.quoted w) ∧ σ' = σ) ⟨rfl, rfl⟩
  exact h2

/-! ### A builder -/
def S_WriteString (P : Program) (K : Knobs) (X : ExtV) (f tB uB : Nat) : Prop := ∀ (fl : Nat) (σ : St) (b : Nat) (s t : Str), fl ≤ b → σ.pin ≤ σ.size → σ.get b = some (.bld tB uB s) → s.length + t.length ≤ 33554432 →
    Big P K X (.call fl f [.ptr b 0, .str t] σ (.tuple [.int .i64 t.length, .undef]) (σ.put b (.bld tB uB (s ++ t))))
end Go.Vw.Wm
end
section
/- The walk of tree.write. -/
namespace Go.Vw.Wm
open Go Go.RowKit Go.Abs Go.Vw Lx Tr
set_option maxRecDepth 20000
set_option linter.unusedSimpArgs false
set_option linter.unusedVariables false
variable {P : Program} {K : Knobs} {X : ExtV}

mutual
/-- No more bytes than these are written. -/
def tb1 : Nat → Node → Nat
  | d, .mk ws _ _ ks => 8 * d + (ws.map fun w => w.length + 3).sum + 5 + tbs (d + 1) ks
def tbs : Nat → List Node → Nat
  | _, [] => 0
  | d, n :: r => tb1 d n + tbs d r
end
section
variable {wm : TypeId → Bool} {n fl : Nat} {Q : Ex → VEnv → St → Prop} {k : List Lf} {σ : St} {fq b8 b : Nat} {ws : List Str} {deep : Nat} {i : Nat} {l : List Node}
theorem qwords_loop (hfl : fl ≤ σ.size) (hp : σ.pin ≤ σ.size) (hq : S_quoted P K X fq) (hws : ∀ w ∈ ws, w.length ≤ 16777216) (hn : ws.length ≤ 16777216) (h8 : b8 < σ.size) (hb : b < σ.size)
    (hE : ∀ ρ' qs, ρ' 0 = .ptr b 0 → ρ' 2 = .int .i64 deep → ρ' 8 = .ptr b8 0 → ρ' 9 = .vec true (qs.map wordCell) → ρ' 15 = .vec false (encNs l) → ρ' 16 = .int .i64 l.length → ρ' 17 = .int .i64 i → quotes ws = some qs → contM P K X wm n fl true Q k (.exit 2) ρ' σ)
    (hR : ∀ ρ', ρ' 6 = .bool false → quotes ws = none → contM P K X wm n fl true Q k .ret ρ' σ) :
    ∀ (rest pre : List Str) (qs : List Str) (ρ : VEnv), ws = pre ++ rest → quotes ws = (quotes rest).map (qs ++ ·) → qs.length = pre.length → ρ 0 = .ptr b 0 → ρ 2 = .int .i64 deep → ρ 8 = .ptr b8 0 → ρ 9 = .vec true (qs.map wordCell) → ρ 15 = .vec false (encNs l) → ρ 16 = .int .i64 l.length → ρ 17 = .int .i64 i →
      ρ 45 = .vec false (ws.map wordCell) → ρ 46 = .int .i64 ws.length → ρ 47 = .int .i64 pre.length →
      loopM P K X wm n fl true Q (l_tree_write_0 fq) k ρ σ := by
  intro rest
  induction rest with
  | nil =>
    intro pre qs ρ hi hqs hql r0 r2 r8 r9 r15 r16 r17 r45 r46 r47
    rw [List.append_nil] at hi
    subst hi
    refine loopM_at (l_tree_write_0.eq_1 _) ?_
    simp [r46, r47, pinned hp]
    refine hE _ qs ?_ ?_ ?_ ?_ ?_ ?_ ?_ (by rw [hqs]; simp [quotes])
    all_goals simp [r0, r2, r8, r9, r15, r16, r17, hb, h8]
  | cons w rest ih =>
    intro pre qs ρ hi hqs hql r0 r2 r8 r9 r15 r16 r17 r45 r46 r47
    have hlen : pre.length < ws.length := by rw [hi]; simp
    have hget : ws[pre.length]? = some w := by rw [hi]; simp
    have hgi : ws[pre.length] = w := by
      rw [List.getElem?_eq_getElem hlen] at hget
      exact Option.some.inj hget
    have hlt : (pre.length : Int) < (ws.length : Int) := by omega
    have hw : IntKind.i64.wrap ((pre.length : Int) + 1) = (pre.length : Int) + 1 := wrap_i64 (by omega) (by omega)
    have hq1 : qs.length + 1 ≤ 33554432 := by omega
    refine loopM_at (l_tree_write_0.eq_1 _) ?_
    simp [r45, r46, r47, pinned hp, hlen, hlt, hgi, wordCell]
    refine callM_of (hq _ _ w (by simp [nearq hfl]) hp (hws w (by rw [hi]; simp))) ?_
    cases hqw : Tr.quoted w with
    | none =>
      have : quotes ws = none := by rw [hqs]; simp [quotes, hqw]
      simp [quotedOut]
      exact hR _ (by simp) this
    | some q =>
      simp [quotedOut, r9, hq1, hw, r47, pinned hp, wordCell]
      refine ih (pre ++ [w]) (qs ++ [q]) _ (by rw [hi]; simp) ?_ (by simp [hql]) ?_ ?_ ?_ ?_ ?_ ?_ ?_ ?_ ?_ ?_
      · rw [hqs]
        simp only [quotes, hqw]
        cases quotes rest <;> simp
      all_goals simp [r0, r2, r8, r15, r16, r17, r45, r46, hb, h8, wordCell]
end

def S_Repeat (P : Program) (K : Knobs) (X : ExtV) (f : Nat) : Prop := ∀ (fl : Nat) (σ : St) (s : Str) (n : Nat), fl ≤ σ.size → n ≤ 1000000 → s.length * n ≤ 16777216 → Big P K X (.call fl f [.str s, .int .i64 n] σ (.str (List.replicate n s).flatten) σ)
def S_Join (P : Program) (K : Knobs) (X : ExtV) (f : Nat) : Prop := ∀ (fl : Nat) (σ : St) (ws : List Str) (sep : Str), fl ≤ σ.size → ws.length ≤ 33554432 → (ws.map fun w => w.length + sep.length).sum ≤ 33554432 → Big P K X (.call fl f [.vec false (ws.map wordCell), .str sep] σ (.str (sep.intercalate ws)) σ)
theorem join_sp : ∀ (qs : List Str), ([32] : Str).intercalate qs = joinSp qs
  | [] => rfl
  | [q] => by simp [List.intercalate, joinSp]
  | q :: r :: l => by
    have := join_sp (r :: l)
    simp only [List.intercalate, joinSp] at this ⊢
    rw [← this]
    simp [List.intersperse]
theorem repeat_blanks (d : Nat) : (List.replicate d ([32, 32, 32, 32] : Str)).flatten = blanks (4 * d) := by
  unfold blanks
  induction d with
  | zero => rfl
  | succ d ih =>
    rw [List.replicate_succ, List.flatten_cons, ih, show 4 * (d + 1) = 4 + 4 * d by omega, ← List.replicate_append_replicate]
    rfl
theorem quoted_len {w q : Str} (h : Tr.quoted w = some q) : q.length ≤ w.length + 2 := by
  unfold Tr.quoted at h
  split at h
  · cases h
  · split at h
    · simp only [Option.some.injEq] at h; subst h; simp
    · simp only [Option.some.injEq] at h; subst h; omega
theorem quotes_len : ∀ {ws qs : List Str}, quotes ws = some qs → (qs.map fun q => q.length + 1).sum ≤ (ws.map fun w => w.length + 3).sum ∧ qs.length = ws.length
  | [], qs, h => by simp only [quotes, Option.some.injEq] at h; subst h; simp
  | w :: ws, qs, h => by
    simp only [quotes] at h
    split at h
    · rename_i q qs' h1 h2
      simp only [Option.some.injEq] at h
      subst h
      have := quotes_len h2
      have := quoted_len h1
      simp; omega
    · cases h
theorem joinSp_len : ∀ (qs : List Str), (joinSp qs).length ≤ (qs.map fun q => q.length + 1).sum
  | [] => by simp [joinSp]
  | [q] => by simp [joinSp]
  | q :: r :: l => by
    have := joinSp_len (r :: l)
    simp [joinSp] at this ⊢; omega
theorem sum_mem {ws : List Str} {w : Str} (h : w ∈ ws) : w.length ≤ (ws.map fun w => w.length + 3).sum := by
  induction ws with
  | nil => cases h
  | cons a ws ih =>
    rcases List.mem_cons.1 h with rfl | h
    · simp; omega
    · have := ih h; simp; omega
theorem sum_len (ws : List Str) : 3 * ws.length ≤ (ws.map fun w => w.length + 3).sum := by
  induction ws with
  | nil => simp
  | cons a ws ih => simp at ih ⊢; omega

theorem tbs_len : ∀ (l : List Node) (d : Nat), l.length ≤ tbs d l
  | [], d => by simp [tbs]
  | .mk ws po b ks :: l, d => by
    have := tbs_len l d
    simp only [tbs, tb1, List.length_cons]
    omega
def WriteOK (P : Program) (K : Knobs) (X : ExtV) (f tB uB : Nat) (l : List Node) : Prop := ∀ (fl : Nat) (σ : St) (b : Nat) (s : Str) (deep : Nat), fl ≤ b → σ.pin ≤ σ.size → σ.get b = some (.bld tB uB s) → deep ≤ 32 → s.length + tbs deep l ≤ 16777216 → l.length ≤ 16777216 →
    ∃ s', (s'.length ≤ s.length + tbs deep l ∧ ∀ t, prs deep l = some t → s' = s ++ t) ∧ Big P K X (.call fl f [.ptr b 0, .vec false (encNs l), .int .i64 deep] σ (.bool (prs deep l).isSome) (σ.put b (.bld tB uB s')))
section
variable {wm : TypeId → Bool} {n fl : Nat} {Q : Ex → VEnv → St → Prop} {k : List Lf} {σ0 : St} {fq fr fj fw fs b tB uB : Nat} {c0 : VObj} {deep : Nat} {l : List Node} {s0 : Str}
theorem write_loop (hfl : fl ≤ b) (hp : σ0.pin ≤ σ0.size) (hb : σ0.get b = some c0) (hq : S_quoted P K X fq) (hr : S_Repeat P K X fr) (hj : S_Join P K X fj) (hw : S_WriteString P K X fw tB uB) (hd : deep ≤ 32) (hl : l.length ≤ 16777216) (hs0 : s0.length + tbs deep l ≤ 16777216)
    (hk : ∀ nd ∈ l, WriteOK P K X fs tB uB nd.kids)
    (hE : ∀ ρ' s t, prs deep l = some t → s = s0 ++ t → contM P K X wm n fl true Q k (.exit 0) ρ' (σ0.put b (.bld tB uB s)))
    (hR : ∀ ρ' s c, ρ' 6 = .bool false → prs deep l = none → s.length ≤ s0.length + tbs deep l → contM P K X wm n fl true Q k .ret ρ' ((σ0.put b (.bld tB uB s)).push (.cells c))) :
    ∀ (rest pre : List Node) (s t : Str) (ρ : VEnv), l = pre ++ rest → prs deep l = (prs deep rest).map (t ++ ·) → s = s0 ++ t → s.length + tbs deep rest ≤ s0.length + tbs deep l → ρ 0 = .ptr b 0 → ρ 2 = .int .i64 deep → ρ 15 = .vec false (encNs l) → ρ 16 = .int .i64 l.length → ρ 17 = .int .i64 pre.length →
      loopM P K X wm n fl true Q (l_tree_write_1 fq fr fj fw fs) k ρ (σ0.put b (.bld tB uB s)) := by
  have hbs := get_lt hb
  intro rest
  induction rest with
  | nil =>
    intro pre s t ρ hi hpr hs hsl r0 r2 r15 r16 r17
    rw [List.append_nil] at hi
    subst hi
    refine loopM_at (l_tree_write_1.eq_1 _ _ _ _ _) ?_
    simp [r16, r17, pinned hp]
    exact hE _ s t (by rw [hpr]; simp [prs]) hs
  | cons nd rest ih =>
    intro pre s t ρ hi hpr hs hsl r0 r2 r15 r16 r17
    have hlen : pre.length < l.length := by rw [hi]; simp
    have hget : l[pre.length]? = some nd := by rw [hi]; simp
    have hgi : l[pre.length] = nd := by
      rw [List.getElem?_eq_getElem hlen] at hget
      exact Option.some.inj hget
    have hlt : (pre.length : Int) < (l.length : Int) := by omega
    have hwp : IntKind.i64.wrap ((pre.length : Int) + 1) = (pre.length : Int) + 1 := wrap_i64 (by omega) (by omega)
    have hkn := hk nd (by rw [hi]; simp)
    obtain ⟨ws, po, bl, ks⟩ := nd
    have hnone : pr1 deep (.mk ws po bl ks) = none → prs deep l = none := by
      intro h; rw [hpr]; simp [prs, h]
    refine loopM_at (l_tree_write_1.eq_1 _ _ _ _ _) ?_
    cases ws with
    | nil =>
      simp [r15, r16, r17, pinned hp, hlen, hlt, encNs_map, hgi, encN, near hfl hbs]
      exact hR _ s _ (by simp) (hnone (by simp [pr1])) (by omega)
    | cons w ws =>
      have htb : tb1 deep (.mk (w :: ws) po bl ks) = 8 * deep + ((w :: ws).map fun w => w.length + 3).sum + 5 + tbs (deep + 1) ks := by simp only [tb1]
      have htbs : tbs deep (.mk (w :: ws) po bl ks :: rest) = tb1 deep (.mk (w :: ws) po bl ks) + tbs deep rest := by simp only [tbs]
      rw [htbs, htb] at hsl
      have hwl : ∀ v ∈ w :: ws, v.length ≤ 16777216 := fun v hv => by have := sum_mem hv; omega
      have hwsn := sum_len (w :: ws)
      have hwn : ¬ ((ws.length : Int) + 1 = 0) := by omega
      cases bl with
      | false =>
        cases ks with
        | cons kd ks =>
          have hkn0 : (0 : Int) < (ks.length : Int) + 1 := by omega
          simp [r15, r16, r17, pinned hp, hlen, hlt, encNs_map, hgi, encN, near hfl hbs, hwn, hkn0]
          exact hR _ s _ (by simp) (hnone (by simp [pr1])) (by omega)
        | nil =>
          simp [r15, r16, r17, pinned hp, hlen, hlt, encNs_map, hgi, encN, encNs, near hfl hbs, hwn]
          refine qwords_loop (ws := w :: ws) (b8 := σ0.size) (b := b) (deep := deep) (i := pre.length) (l := l) (by simp [near hfl hbs]) (by simp [pinned hp]) hq hwl (by omega) (by simp) (by simp [near hfl hbs]) ?_ ?_ (w :: ws) [] [] _ rfl (by cases quotes (w :: ws) <;> simp) rfl ?_ ?_ ?_ ?_ ?_ ?_ ?_ ?_ ?_ ?_
          · intro ρ' qs r0' r2' r8' r9' r15' r16' r17' hqs
            have hql := quotes_len hqs
            have hjl := joinSp_len qs
            have hq1 := hql.1
            have hlb : (blanks (4 * deep)).length = 4 * deep := by simp [blanks]
            simp [r2', near hfl hbs]
            refine callM_of (hr _ _ _ deep (by simp [near hfl hbs]) (by omega) (by simp; omega)) ?_
            rw [repeat_blanks]
            simp [r0', r9', near hfl hbs]
            refine callM_of (hj _ _ qs [32] (by simp [near hfl hbs]) (by rw [hql.2]; have := hwsn; simp only [List.length_cons] at this ⊢; omega) (by have := hql.1; show (qs.map fun w => w.length + 1).sum ≤ _; omega)) ?_
            rw [join_sp]
            have hbl : (blanks (4 * deep)).length + (joinSp qs).length ≤ 33554432 := by simp [blanks]; omega
            simp [hbl, r0']
            refine callM_of (hw _ _ b s _ hfl (by simp [pinned hp]) (by simp [near hfl hbs, hb]) (by simp [blanks]; omega)) ?_
            simp [near hfl hbs, r8', r0', encN, encNs]
            refine callM_of (hw _ _ b (s ++ (blanks (4 * deep) ++ joinSp qs)) [59, 10] hfl (by simp [pinned hp]) (by simp [near hfl hbs, hb]) (by simp only [List.length_append, List.length_cons, List.length_nil]; omega)) ?_
            simp [near hfl hbs, pinned hp, r17', hwp]
            have hp1 : pr1 deep (.mk (w :: ws) po false []) = some (blanks (4 * deep) ++ joinSp qs ++ [59, 10]) := by simp [pr1, hqs]
            refine loopM_to (ih (pre ++ [.mk (w :: ws) po false []]) (s ++ (blanks (4 * deep) ++ joinSp qs ++ [59, 10])) (t ++ (blanks (4 * deep) ++ joinSp qs ++ [59, 10])) _ (by rw [hi]; simp) ?_ (by rw [hs]; simp) ?_ ?_ ?_ ?_ ?_ ?_) ?_
            · rw [hpr]
              simp only [prs, hp1]
              cases prs deep rest <;> simp
            · simp only [List.length_append, List.length_cons, List.length_nil]; omega
            all_goals simp [r0', r2', r15', r16', r17', encNs_map, near hfl hbs]
          · intro ρ' r6' hqs
            simp [r6']
            exact hR _ s _ r6' (hnone (by simp [pr1, hqs])) (by omega)
          all_goals simp [r0, r2, r15, r16, r17, encNs_map, near hfl hbs]
      | true =>
        by_cases h32 : 32 ≤ deep
        · have h32' : (32 : Int) ≤ (deep : Int) := by omega
          simp [r2, r15, r16, r17, pinned hp, hlen, hlt, encNs_map, hgi, encN, near hfl hbs, hwn, h32']
          exact hR _ s _ (by simp) (hnone (by simp [pr1, h32])) (by omega)
        · have h32' : ¬ ((32 : Int) ≤ (deep : Int)) := by omega
          simp [r2, r15, r16, r17, pinned hp, hlen, hlt, encNs_map, hgi, encN, near hfl hbs, hwn, h32']
          have hkn' : WriteOK P K X fs tB uB ks := hkn
          have hwd : IntKind.i64.wrap ((deep : Int) + 1) = ((deep + 1 : Nat) : Int) := wrap_i64 (by omega) (by omega)
          have hkl : ks.length ≤ 16777216 := by have := tbs_len ks (deep + 1); omega
          refine qwords_loop (ws := w :: ws) (b8 := σ0.size) (b := b) (deep := deep) (i := pre.length) (l := l) (by simp [near hfl hbs]) (by simp [pinned hp]) hq hwl (by omega) (by simp) (by simp [near hfl hbs]) ?_ ?_ (w :: ws) [] [] _ rfl (by cases quotes (w :: ws) <;> simp) rfl ?_ ?_ ?_ ?_ ?_ ?_ ?_ ?_ ?_ ?_
          · intro ρ' qs r0' r2' r8' r9' r15' r16' r17' hqs
            have hql := quotes_len hqs
            have hjl := joinSp_len qs
            have hq1 := hql.1
            have hlb : (blanks (4 * deep)).length = 4 * deep := by simp [blanks]
            simp [r2', near hfl hbs]
            refine callM_of (hr _ _ _ deep (by simp [near hfl hbs]) (by omega) (by simp; omega)) ?_
            rw [repeat_blanks]
            simp [r0', r9', near hfl hbs]
            refine callM_of (hj _ _ qs [32] (by simp [near hfl hbs]) (by rw [hql.2]; have := hwsn; simp only [List.length_cons] at this ⊢; omega) (by have := hql.1; show (qs.map fun w => w.length + 1).sum ≤ _; omega)) ?_
            rw [join_sp]
            have hbl : (blanks (4 * deep)).length + (joinSp qs).length ≤ 33554432 := by omega
            have hbl2 : (blanks (4 * deep)).length + 2 ≤ 33554432 := by omega
            simp [hbl, r0']
            refine callM_of (hw _ _ b s _ hfl (by simp [pinned hp]) (by simp [near hfl hbs, hb]) (by simp only [List.length_append]; omega)) ?_
            simp [near hfl hbs, r8', r0', encN, encNs]
            refine callM_of (hw _ _ b (s ++ (blanks (4 * deep) ++ joinSp qs)) [32, 123, 10] hfl (by simp [pinned hp]) (by simp [near hfl hbs, hb]) (by simp only [List.length_append, List.length_cons, List.length_nil]; omega)) ?_
            simp [near hfl hbs, r8', r0', r2', hwd]
            have hpk : ∀ k, prs (deep + 1) ks = some k → pr1 deep (.mk (w :: ws) po true ks) = some (blanks (4 * deep) ++ joinSp qs ++ [32, 123, 10] ++ k ++ blanks (4 * deep) ++ [125, 10]) := by
              intro k hk; simp [pr1, hqs, hk]; omega
            have hpn : prs (deep + 1) ks = none → pr1 deep (.mk (w :: ws) po true ks) = none := by
              intro hk; simp [pr1, hqs, hk]
            rw [← encNs_map ks]
            refine callM_ex1 (hkn' _ _ b (s ++ (blanks (4 * deep) ++ joinSp qs) ++ [32, 123, 10]) (deep + 1) hfl (by simp [pinned hp]) (by simp [near hfl hbs, hb]) (by omega) (by simp only [List.length_append, List.length_cons, List.length_nil]; omega) hkl) ?_
            intro s2 ⟨hs2, ht2⟩
            cases hkp : prs (deep + 1) ks with
            | none =>
              simp [near hfl hbs]
              exact hR _ s2 _ (by simp) (hnone (hpn hkp)) (by simp only [List.length_append, List.length_cons, List.length_nil] at hs2; omega)
            | some kt =>
              have hs2' := ht2 kt hkp
              simp [near hfl hbs, hbl2, r0']
              have hs2l := hs2
              simp only [List.length_append, List.length_cons, List.length_nil] at hs2l
              refine callM_of (hw _ _ b s2 (blanks (4 * deep) ++ [125, 10]) hfl (by simp [pinned hp]) (by simp [near hfl hbs, hb]) (by simp only [List.length_append, List.length_cons, List.length_nil]; omega)) ?_
              simp [near hfl hbs, pinned hp, r17', hwp]
              have hp1 := hpk kt hkp
              refine loopM_to (ih (pre ++ [.mk (w :: ws) po true ks]) (s2 ++ (blanks (4 * deep) ++ [125, 10])) (t ++ (blanks (4 * deep) ++ joinSp qs ++ [32, 123, 10] ++ kt ++ blanks (4 * deep) ++ [125, 10])) _ (by rw [hi]; simp) ?_ (by rw [hs2', hs]; simp) ?_ ?_ ?_ ?_ ?_ ?_) ?_
              · rw [hpr]
                simp only [prs, hp1]
                cases prs deep rest <;> simp
              · simp only [List.length_append, List.length_cons, List.length_nil]; omega
              all_goals simp [r0', r2', r15', r16', r17', encNs_map, near hfl hbs]
          · intro ρ' r6' hqs
            simp [r6']
            exact hR _ s _ r6' (hnone (by simp [pr1, hqs])) (by omega)
          all_goals simp [r0, r2, r15, r16, r17, encNs_map, near hfl hbs]
end
end Go.Vw.Wm
end
section
/- The walks of tree.write and tree.Print. -/
namespace Go.Vw.Wm
open Go Go.RowKit Go.Abs Go.Vw Lx Tr
set_option maxRecDepth 20000
set_option linter.unusedSimpArgs false
set_option linter.unusedVariables false
variable {P : Program} {K : Knobs} {X : ExtV}
mutual
theorem pr1_tb : ∀ (nd : Node) (d : Nat) (t : Str), pr1 d nd = some t → t.length ≤ tb1 d nd
  | .mk ws po b ks, d, t, h => by
    simp only [pr1] at h
    split at h
    · cases h
    · cases hq : quotes ws with
      | none => rw [hq] at h; cases h
      | some qs =>
        rw [hq] at h
        have hql := (quotes_len hq).1
        have hjl := joinSp_len qs
        simp only at h
        split at h
        · cases hk : prs (d + 1) ks with
          | none => rw [hk] at h; cases h
          | some k =>
            rw [hk] at h
            simp only [Option.some.injEq] at h
            have := prs_tbs ks (d + 1) k hk
            rw [← h]
            simp only [List.length_append, List.length_cons, List.length_nil, blanks, List.length_replicate, tb1]
            omega
        · simp only [Option.some.injEq] at h
          rw [← h]
          simp only [List.length_append, List.length_cons, List.length_nil, blanks, List.length_replicate, tb1]
          omega
theorem prs_tbs : ∀ (l : List Node) (d : Nat) (t : Str), prs d l = some t → t.length ≤ tbs d l
  | [], d, t, h => by
    simp only [prs, Option.some.injEq] at h
    subst h; simp [tbs]
  | n :: r, d, t, h => by
    simp only [prs] at h
    split at h
    · rename_i a b h1 h2
      simp only [Option.some.injEq] at h
      have := pr1_tb n d a h1
      have := prs_tbs r d b h2
      rw [← h]
      simp only [List.length_append, tbs]
      omega
    · cases h
end
theorem write_step {fs fq fr fj fw tB uB : Nat} (hq : S_quoted P K X fq) (hr : S_Repeat P K X fr) (hj : S_Join P K X fj) (hw : S_WriteString P K X fw tB uB) (H : Has P K fs false (c_tree_write fq fr fj fw fs)) {l : List Node} (hk : ∀ nd ∈ l, WriteOK P K X fs tB uB nd.kids) : WriteOK P K X fs tB uB l := by
  intro fl σ b s deep hfl hp hb hd hs hl
  have hbs := get_lt hb
  have h : ∃ v σ', (∃ s', (s'.length ≤ s.length + tbs deep l ∧ ∀ t, prs deep l = some t → s' = s ++ t) ∧ v = .bool (prs deep l).isSome ∧ σ' = σ.put b (.bld tB uB s')) ∧ Big P K X (.call fl fs [.ptr b 0, .vec false (encNs l), .int .i64 deep] σ v σ') := by
    refine H_callE H (Nat.le_of_ble_eq_true rfl) ?_
    simp [c_tree_write]
    refine loopM_to (write_loop (s0 := s) (deep := deep) (l := l) hfl hp hb hq hr hj hw hd hl hs hk ?_ ?_ l [] s [] _ rfl (by cases prs deep l <;> simp) (by simp) (Nat.le_refl _) ?_ ?_ ?_ ?_ ?_) ?_
    · intro ρ' s' t ht hst
      have htl := prs_tbs l deep t ht
      simp [near hfl hbs, pinned hp]
      exact ⟨s', ⟨by rw [hst, List.length_append]; omega, fun t' ht' => by rw [ht] at ht'; cases ht'; exact hst⟩, by simp [ht], rfl⟩
    · intro ρ' s' c r6 ht hsl
      simp [near hfl hbs, pinned hp, r6]
      exact ⟨s', ⟨hsl, fun t' ht' => by rw [ht] at ht'; cases ht'⟩, by simp [ht], rfl⟩
    all_goals try simp [encNs_map]
    exact (put_get hb).symm
  obtain ⟨v, σ', ⟨s', h1, rfl, rfl⟩, h2⟩ := h
  exact ⟨s', h1, h2⟩

theorem write_kids {fs fq fr fj fw tB uB : Nat} (hq : S_quoted P K X fq) (hr : S_Repeat P K X fr) (hj : S_Join P K X fj) (hw : S_WriteString P K X fw tB uB) (H : Has P K fs false (c_tree_write fq fr fj fw fs)) : ∀ (l : List Node), ∀ nd ∈ l, WriteOK P K X fs tB uB nd.kids
  | [], nd, h => by cases h
  | .mk ws po b ks :: r, nd, h => by
    rcases List.mem_cons.1 h with rfl | h
    · exact write_step hq hr hj hw H (write_kids hq hr hj hw H ks)
    · exact write_kids hq hr hj hw H r nd h
def S_write (P : Program) (K : Knobs) (X : ExtV) (f tB uB : Nat) : Prop := ∀ l, WriteOK P K X f tB uB l
theorem write_ok {fs fq fr fj fw tB uB : Nat} (hq : S_quoted P K X fq) (hr : S_Repeat P K X fr) (hj : S_Join P K X fj) (hw : S_WriteString P K X fw tB uB) (H : Has P K fs false (c_tree_write fq fr fj fw fs)) : S_write P K X fs tB uB := fun l => write_step hq hr hj hw H (write_kids hq hr hj hw H l)
def S_String (P : Program) (K : Knobs) (X : ExtV) (f tB uB : Nat) : Prop := ∀ (fl : Nat) (σ : St) (b : Nat) (s : Str), fl ≤ b → σ.pin ≤ σ.size → σ.get b = some (.bld tB uB s) → s.length ≤ 33554432 →
    Big P K X (.call fl f [.ptr b 0] σ (.str s) (σ.put b .dead))
def printOut : Option Str → V
  | some t => .tuple [.str t, .int .i64 0]
  | none => .tuple [.str [], .int .i64 1]
def S_Print (P : Program) (K : Knobs) (X : ExtV) (f : Nat) : Prop := ∀ (fl : Nat) (σ : St) (l : List Node), fl ≤ σ.size → σ.pin ≤ σ.size → tbs 0 l ≤ 16777216 →
    Big P K X (.call fl f [.vec false (encNs l)] σ (printOut (prs 0 l)) σ)
theorem Print_ok {f fw fs tB uB : Nat} (hw : S_write P K X fw tB uB) (hs : S_String P K X fs tB uB) (H : Has P K f false (c_tree_Print fw fs tB uB)) : S_Print P K X f := by
  intro fl σ l hfl hp ht
  have h : ∀ (R : V → St → Prop), R (printOut (prs 0 l)) σ → ∃ v σ', R v σ' ∧ Big P K X (.call fl f [.vec false (encNs l)] σ v σ') := by
    intro R hR
    refine H_callE H (Nat.le_of_ble_eq_true rfl) ?_
    simp [c_tree_Print]
    refine callM_ex1 (hw l _ _ σ.size [] 0 (by simp [nearq hfl]) (by simp [pinned hp]) (by simp) (by omega) (by simpa using ht) (by have := tbs_len l 0; omega)) ?_
    intro s ⟨hsl, hst⟩
    cases hpr : prs 0 l with
    | none =>
      rw [hpr] at hR
      simp [nearq hfl, pinned hp]
      exact hR
    | some t =>
      have := hst t hpr
      rw [hpr] at hR
      simp at this
      subst this
      simp [nearq hfl, pinned hp]
      refine callM_of (hs _ _ σ.size s (by simp [nearq hfl]) (by simp [pinned hp]) (by simp) (by simp only [List.length_nil, Nat.zero_add] at hsl; omega)) ?_
      simp [nearq hfl, pinned hp]
      exact hR
  obtain ⟨v, σ', ⟨rfl, rfl⟩, h2⟩ := h (fun v σ' => v = printOut (prs 0 l) ∧ σ' = σ) ⟨rfl, rfl⟩
  exact h2
end Go.Vw.Wm
end
section
/- The library's answers in one's own words. -/
namespace Go.Vw.Wm
open Go Go.RowKit Go.Abs Go.Vw Lx Tr
theorem ixO_map (o : Option Nat) : ixO (o.map (· + 1)) = if (ixO o == -1) = true then -1 else ixO o + 1 := by
  cases o with
  | none => rfl
  | some i =>
    have h : (ixO (some i) == -1) = false := by
      simp [ixO]
    rw [h]
    simp [ixO]
theorem lib_indexByte : ∀ (s : Str) (c : UInt8), Lib.indexByte s c = ixO (s.findIdx? (· == c))
  | [], c => rfl
  | a :: s, c => by
    rw [List.findIdx?_cons, Lib.indexByte, lib_indexByte s c]
    by_cases h : (a == c) = true
    · rw [if_pos h, if_pos h]; rfl
    · rw [if_neg h, if_neg h, ixO_map]
theorem lib_index : ∀ (s p : Str), Lib.index s p = ixO (indexStr p s)
  | [], p => by
    rw [Lib.index, indexStr]
    cases p.isEmpty <;> rfl
  | a :: s, p => by
    rw [Lib.index, indexStr, lib_index s p]
    by_cases h : p.isPrefixOf (a :: s) = true
    · rw [if_pos h, if_pos h]; rfl
    · rw [if_neg h, if_neg h, ixO_map]
theorem lib_contains (s p : Str) : Lib.contains s p = (indexStr p s).isSome := by
  rw [Lib.contains, lib_index, ixO_dec]
theorem lib_indexAny : ∀ (s cs : Str), Lib.indexAny s cs = ixO (s.findIdx? (cs.contains ·))
  | [], cs => rfl
  | a :: s, cs => by
    rw [List.findIdx?_cons, Lib.indexAny, lib_indexAny s cs]
    by_cases h : cs.contains a = true
    · rw [if_pos h, if_pos h]; rfl
    · rw [if_neg h, if_neg h, ixO_map]
theorem lib_containsAny (s cs : Str) : Lib.containsAny s cs = s.any cs.contains := by
  rw [Lib.containsAny, lib_indexAny, ixO_dec, List.findIdx?_isSome]
theorem lib_repeat (s : Str) : ∀ n, Lib.repeatL s n = (List.replicate n s).flatten
  | 0 => rfl
  | n + 1 => by rw [Lib.repeatL, lib_repeat s n, List.replicate_succ, List.flatten_cons]
end Go.Vw.Wm
end
section
/- Library functions that answer texts and numbers alone. -/
namespace Go.Abs
open Go Go.RowKit
def isByte (c : Int) : Bool := decide (0 ≤ c) && decide (c < 256)
def eIndexByte : List AV → Option AV
  | [.str s, .int .u8 c] => some (.int .i64 (Lib.indexByte s c.toNat.toUInt8))
  | _ => none
def eHasPrefix : List AV → Option AV
  | [.str s, .str p] => some (.bool (Lib.hasPrefix s p))
  | _ => none
def eIndex : List AV → Option AV
  | [.str s, .str p] => if s.length ≤ 16777216 then some (.int .i64 (Lib.index s p)) else none
  | _ => none
def eContains : List AV → Option AV
  | [.str s, .str p] => if s.length ≤ 16777216 then some (.bool (Lib.contains s p)) else none
  | _ => none
def ascii (s : List UInt8) : Bool := s.all fun c => decide (c.toNat < 128)
def eIndexAny : List AV → Option AV
  | [.str s, .str p] => if s.length ≤ 16777216 ∧ p.length ≤ 16777216 ∧ ascii s = true ∧ ascii p = true then some (.int .i64 (Lib.indexAny s p)) else none
  | _ => none
def eContainsAny : List AV → Option AV
  | [.str s, .str p] => if s.length ≤ 16777216 ∧ p.length ≤ 16777216 ∧ ascii s = true ∧ ascii p = true then some (.bool (Lib.containsAny s p)) else none
  | _ => none
def eRepeat : List AV → Option AV
  | [.str s, .int .i64 n] => if 0 ≤ n ∧ n ≤ 9223372036854775807 ∧ s.length * n.toNat ≤ 140737488355328 then some (.str (Lib.repeatL s n.toNat)) else none
  | _ => none
def pureExt (e : List AV → Option AV) : List AV → AH → Option (AV × AH) := fun args H => (e args).map fun v => (v, H)

/-- What is asked of one contract. -/
def ExtOne (P : Program) (w0 : World) (f : Nat) (c : List AV → AH → Option (AV × AH)) : Prop := ∀ args H v H', c args H = some (v, H') → H.next ≤ H'.next ∧ ∀ L m w (us : Array Value), H'.next ≤ L → R w0 L m H w → VRs m args us.toList →
    Calls P f us w fun e w' => ∃ u m', e = .returned u ∧ Step m H w m' H' w' ∧ VR m' v u ∧ R w0 L m' H' w'
section
variable {P : Program} {w0 : World}
theorem arr_of {m : M} {x y : AV} {us : Array Value} (h : VRs m [x, y] us.toList) : ∃ a b, us = #[a, b] ∧ VR m x a ∧ VR m y b := by
  obtain ⟨us⟩ := us
  cases h with
  | cons _ a _ _ h1 h2 =>
    cases h2 with
    | cons _ b _ _ h3 h4 =>
      cases h4
      exact ⟨a, b, rfl, h1, h3⟩
theorem one_IndexByte {f : Nat} (hc : ∀ (s : ByteArray) (c : Int) (w : World), Calls P f #[.string s, .int .u8 c] w fun e w' => e = .returned (.int .i64 (Lib.indexByte s.data.toList c.toNat.toUInt8)) ∧ w' = w) : ExtOne P w0 f (pureExt eIndexByte) := by
  intro args H v H' h
  simp only [pureExt, Option.map_eq_some_iff, Prod.mk.injEq] at h
  obtain ⟨v', h1, rfl, rfl⟩ := h
  refine ⟨Nat.le_refl _, fun L m w us _ hR hA => ?_⟩
  unfold eIndexByte at h1
  split at h1
  · rename_i s c
    simp only [Option.some.injEq] at h1
    subst h1
    obtain ⟨a, b, rfl, k1, k2⟩ := arr_of hA
    cases k1; cases k2
    exact ext_same hR (.int _ _) (hc ⟨s.toArray⟩ c w)
  · cases h1
theorem one_HasPrefix {f : Nat} (hc : ∀ (s p : ByteArray) (w : World), Calls P f #[.string s, .string p] w fun e w' => e = .returned (.bool (Lib.hasPrefix s.data.toList p.data.toList)) ∧ w' = w) : ExtOne P w0 f (pureExt eHasPrefix) := by
  intro args H v H' h
  simp only [pureExt, Option.map_eq_some_iff, Prod.mk.injEq] at h
  obtain ⟨v', h1, rfl, rfl⟩ := h
  refine ⟨Nat.le_refl _, fun L m w us _ hR hA => ?_⟩
  unfold eHasPrefix at h1
  split at h1
  · rename_i s c
    simp only [Option.some.injEq] at h1
    subst h1
    obtain ⟨a, b, rfl, k1, k2⟩ := arr_of hA
    cases k1; cases k2
    exact ext_same hR (.bool _) (hc ⟨s.toArray⟩ ⟨c.toArray⟩ w)
  · cases h1
theorem ascii_get {s : List UInt8} (h : ascii s = true) : ∀ (j : Nat) b, s[j]? = some b → b.toNat < 128 := by
  intro j b hj
  have := List.all_eq_true.1 h b (List.mem_of_getElem? hj)
  simpa using this
/-- The cell of the machine's look-up limit. -/
def MaxCell (w0 : World) : Prop := 0 < w0.heap.size ∧ ∃ m, w0.cell? ⟨0, 0, none⟩ = some (.int .i64 m)
theorem MaxCell.at {m : M} {H : AH} {w : World} {L : Nat} (h : MaxCell w0) (hR : R w0 L m H w) : ∃ m, w.cell? ⟨0, 0, none⟩ = some (.int .i64 m) := by
  obtain ⟨h1, m, h2⟩ := h
  refine ⟨m, ?_⟩
  rw [← h2]
  unfold World.cell?
  rw [hR.below.block 0 h1]
theorem one_Index {f : Nat} (hm : MaxCell w0) (hc : ∀ (s p : ByteArray) (m : Int) (w : World), s.size < 4294967281 → w.cell? ⟨0, 0, none⟩ = some (.int .i64 m) → Calls P f #[.string s, .string p] w fun e w' => e = .returned (.int .i64 (Lib.index s.data.toList p.data.toList)) ∧ w' = w) : ExtOne P w0 f (pureExt eIndex) := by
  intro args H v H' h
  simp only [pureExt, Option.map_eq_some_iff, Prod.mk.injEq] at h
  obtain ⟨v', h1, rfl, rfl⟩ := h
  refine ⟨Nat.le_refl _, fun L m w us _ hR hA => ?_⟩
  unfold eIndex at h1
  split at h1
  · rename_i s c
    split at h1
    · rename_i hcond
      simp only [Option.some.injEq] at h1
      subst h1
      obtain ⟨a, b, rfl, k1, k2⟩ := arr_of hA
      cases k1; cases k2
      obtain ⟨mm, hmm⟩ := hm.at hR
      exact ext_same hR (.int _ _) (hc ⟨s.toArray⟩ ⟨c.toArray⟩ mm w (by simp only [ByteArray.size, List.size_toArray]; omega) hmm)
    · cases h1
  · cases h1
theorem one_Contains {f : Nat} (hm : MaxCell w0) (hc : ∀ (s p : ByteArray) (m : Int) (w : World), s.size < 4294967281 → w.cell? ⟨0, 0, none⟩ = some (.int .i64 m) → Calls P f #[.string s, .string p] w fun e w' => e = .returned (.bool (Lib.contains s.data.toList p.data.toList)) ∧ w' = w) : ExtOne P w0 f (pureExt eContains) := by
  intro args H v H' h
  simp only [pureExt, Option.map_eq_some_iff, Prod.mk.injEq] at h
  obtain ⟨v', h1, rfl, rfl⟩ := h
  refine ⟨Nat.le_refl _, fun L m w us _ hR hA => ?_⟩
  unfold eContains at h1
  split at h1
  · rename_i s c
    split at h1
    · rename_i hcond
      simp only [Option.some.injEq] at h1
      subst h1
      obtain ⟨a, b, rfl, k1, k2⟩ := arr_of hA
      cases k1; cases k2
      obtain ⟨mm, hmm⟩ := hm.at hR
      exact ext_same hR (.bool _) (hc ⟨s.toArray⟩ ⟨c.toArray⟩ mm w (by simp only [ByteArray.size, List.size_toArray]; omega) hmm)
    · cases h1
  · cases h1
theorem one_IndexAny {f : Nat} (hc : ∀ (s p : ByteArray) (w : World), s.size < 4294967281 → p.size < 4294967281 → (∀ (j : Nat) b, s.data.toList[j]? = some b → b.toNat < 128) → (∀ (j : Nat) b, p.data.toList[j]? = some b → b.toNat < 128) → Calls P f #[.string s, .string p] w fun e w' => e = .returned (.int .i64 (Lib.indexAny s.data.toList p.data.toList)) ∧ Below w.heap.size w w') : ExtOne P w0 f (pureExt eIndexAny) := by
  intro args H v H' h
  simp only [pureExt, Option.map_eq_some_iff, Prod.mk.injEq] at h
  obtain ⟨v', h1, rfl, rfl⟩ := h
  refine ⟨Nat.le_refl _, fun L m w us _ hR hA => ?_⟩
  unfold eIndexAny at h1
  split at h1
  · rename_i s c
    split at h1
    · rename_i hcond
      simp only [Option.some.injEq] at h1
      subst h1
      obtain ⟨a, b, rfl, k1, k2⟩ := arr_of hA
      cases k1; cases k2
      exact ext_later hR (.int _ _) (hc ⟨s.toArray⟩ ⟨c.toArray⟩ w (by simp only [ByteArray.size, List.size_toArray]; omega) (by simp only [ByteArray.size, List.size_toArray]; omega) (ascii_get hcond.2.2.1) (ascii_get hcond.2.2.2))
    · cases h1
  · cases h1
theorem one_ContainsAny {f : Nat} (hc : ∀ (s p : ByteArray) (w : World), s.size < 4294967281 → p.size < 4294967281 → (∀ (j : Nat) b, s.data.toList[j]? = some b → b.toNat < 128) → (∀ (j : Nat) b, p.data.toList[j]? = some b → b.toNat < 128) → Calls P f #[.string s, .string p] w fun e w' => e = .returned (.bool (Lib.containsAny s.data.toList p.data.toList)) ∧ Below w.heap.size w w') : ExtOne P w0 f (pureExt eContainsAny) := by
  intro args H v H' h
  simp only [pureExt, Option.map_eq_some_iff, Prod.mk.injEq] at h
  obtain ⟨v', h1, rfl, rfl⟩ := h
  refine ⟨Nat.le_refl _, fun L m w us _ hR hA => ?_⟩
  unfold eContainsAny at h1
  split at h1
  · rename_i s c
    split at h1
    · rename_i hcond
      simp only [Option.some.injEq] at h1
      subst h1
      obtain ⟨a, b, rfl, k1, k2⟩ := arr_of hA
      cases k1; cases k2
      exact ext_later hR (.bool _) (hc ⟨s.toArray⟩ ⟨c.toArray⟩ w (by simp only [ByteArray.size, List.size_toArray]; omega) (by simp only [ByteArray.size, List.size_toArray]; omega) (ascii_get hcond.2.2.1) (ascii_get hcond.2.2.2))
    · cases h1
  · cases h1
theorem one_Repeat {f : Nat} (hc : ∀ (s : ByteArray) (c : Nat) (w : World), c ≤ 9223372036854775807 → s.size * c ≤ 140737488355328 → Calls P f #[.string s, .int .i64 c] w fun e w' => e = .returned (.string ⟨(Lib.repeatL s.data.toList c).toArray⟩) ∧ Below w.heap.size w w') : ExtOne P w0 f (pureExt eRepeat) := by
  intro args H v H' h
  simp only [pureExt, Option.map_eq_some_iff, Prod.mk.injEq] at h
  obtain ⟨v', h1, rfl, rfl⟩ := h
  refine ⟨Nat.le_refl _, fun L m w us _ hR hA => ?_⟩
  unfold eRepeat at h1
  split at h1
  · rename_i s c
    split at h1
    · rename_i hcond
      simp only [Option.some.injEq] at h1
      subst h1
      obtain ⟨a, b, rfl, k1, k2⟩ := arr_of hA
      cases k1; cases k2
      have hn : ((c.toNat : Nat) : Int) = c := Int.toNat_of_nonneg hcond.1
      have hh := hc ⟨s.toArray⟩ c.toNat w (by omega) (by simp only [ByteArray.size, List.size_toArray]; exact hcond.2.2)
      rw [hn] at hh
      exact ext_later hR (.str _) hh
    · cases h1
  · cases h1
end
end Go.Abs
end
section
/- strings.Join, for the first evaluator. -/
namespace Go.Abs
open Go Go.RowKit
def strsA : List AV → Option (List (List UInt8))
  | [] => some []
  | .str s :: r => (strsA r).map (s :: ·)
  | _ => none
def eJoin : List AV → AH → Option (AV × AH)
  | [.nils, .str _], H => some (.str [], H)
  | [.slice b off len _ esz, .str sep], H => if len = 0 then some (.str [], H) else if esz ≠ 1 then none else
      match (rd H b off len).bind strsA with
      | some ws => if ws.length ≤ 140737488355328 ∧ (Lib.join ws sep).length ≤ 140737488355328 then some (.str (Lib.join ws sep), H) else none
      | none => none
  | _, _ => none
theorem strsA_vals {m : M} : ∀ {l : List AV} {ws : List (List UInt8)} {us : List Value}, strsA l = some ws → VRs m l us → us = ws.map fun s => .string ⟨s.toArray⟩
  | [], ws, us, h, hv => by
    simp only [strsA, Option.some.injEq] at h
    subst h
    cases hv
    rfl
  | x :: l, ws, us, h, hv => by
    cases hv with
    | cons _ u _ c h1 h2 =>
      cases x with
      | str s =>
        simp only [strsA, Option.map_eq_some_iff] at h
        obtain ⟨r, hr, rfl⟩ := h
        rw [strsA_vals hr h2]
        cases h1
        rfl
      | _ => cases h
section
variable {P : Program} {w0 : World}
theorem one_Join {f : Nat} (h0 : ∀ (a : Option Addr) (c : Nat) (sep : ByteArray) (w : World), Calls P f #[.slice a 0 c, .string sep] w fun e w' => e = .returned (.string ⟨#[]⟩) ∧ w' = w)
    (hc : ∀ (bk o c : Nat) (xs : List ByteArray) (sep : ByteArray) (w : World), (∀ (j : Nat) x, xs[j]? = some x → w.cell? ⟨bk, o + j, none⟩ = some (.string x)) → bk < w.heap.size → xs.length ≤ 140737488355328 → xs.length ≤ c → (Lib.join (xs.map (·.data.toList)) sep.data.toList).length ≤ 140737488355328 →
      Calls P f #[.slice (some ⟨bk, o, none⟩) xs.length c, .string sep] w fun e w' => e = .returned (.string ⟨(Lib.join (xs.map (·.data.toList)) sep.data.toList).toArray⟩) ∧ Below w.heap.size w w') : ExtOne P w0 f eJoin := by
  intro args H v H' h
  unfold eJoin at h
  split at h
  · rename_i sep
    simp only [Option.some.injEq, Prod.mk.injEq] at h
    obtain ⟨rfl, rfl⟩ := h
    refine ⟨Nat.le_refl _, fun L m w us _ hR hA => ?_⟩
    obtain ⟨a, b, rfl, k1, k2⟩ := arr_of hA
    cases k1; cases k2
    exact ext_same hR (.str []) (h0 none 0 ⟨sep.toArray⟩ w)
  · rename_i b off len cap esz sep
    split at h
    · rename_i hl
      subst hl
      simp only [Option.some.injEq, Prod.mk.injEq] at h
      obtain ⟨rfl, rfl⟩ := h
      refine ⟨Nat.le_refl _, fun L m w us _ hR hA => ?_⟩
      obtain ⟨a, b, rfl, k1, k2⟩ := arr_of hA
      cases k2
      cases k1 with
      | slice _ _ _ _ _ g o n a c g1 g2 g3 g4 => exact ext_same hR (.str []) (h0 (some a) c ⟨sep.toArray⟩ w)
    · rename_i hl
      split at h
      · cases h
      rename_i hesz
      have hesz : esz = 1 := Classical.not_not.1 hesz
      subst hesz
      split at h
      · rename_i ws hw
        split at h
        · rename_i hb
          simp only [Option.some.injEq, Prod.mk.injEq] at h
          obtain ⟨rfl, rfl⟩ := h
          refine ⟨Nat.le_refl _, fun L m w us _ hR hA => ?_⟩
          obtain ⟨a, b, rfl, k1, k2⟩ := arr_of hA
          cases k2
          cases k1 with
          | slice _ _ _ _ _ g o n a c g1 g2 g3 g4 =>
            obtain ⟨ha, _⟩ := g4 (by omega)
            subst ha
            cases hr : rd H _ off len with
            | none => rw [hr] at hw; cases hw
            | some l =>
              rw [hr] at hw
              simp only [Option.bind_some] at hw
              obtain ⟨us, e1, e2, e3⟩ := hR.read hr g1
              have e4 := strsA_vals hw e2
              subst e4
              have hlen : ws.length = len := by simpa using e1
              subst hlen
              have hx : (ws.map fun s => (⟨s.toArray⟩ : ByteArray)).map (·.data.toList) = ws := by
                rw [List.map_map]
                conv => rhs; rw [← List.map_id ws]
                exact List.map_congr_left (fun s _ => by simp)
              have := hc g (o + off) c (ws.map fun s => ⟨s.toArray⟩) ⟨sep.toArray⟩ w (fun j x hj => by
                rw [List.getElem?_map] at hj
                cases hq : ws[j]? with
                | none => rw [hq] at hj; cases hj
                | some s =>
                  rw [hq] at hj
                  simp only [Option.map_some, Option.some.injEq] at hj
                  subst hj
                  exact e3 j _ (by rw [List.getElem?_map, hq]; rfl)) (hR.inb _ _ g1) (by rw [List.length_map]; exact hb.1) (by rw [List.length_map]; exact g2) (by rw [hx]; exact hb.2)
              rw [hx, List.length_map] at this
              exact ext_later hR (.str _) this
        · cases h
      · cases h
  · cases h
end
end Go.Abs
end
section
/- The library's contracts, of the second evaluator. -/
namespace Go.Vw.Wm
open Go Go.RowKit Go.Abs Go.Vw Lx Tr
section
variable {P : Program} {K : Knobs} {ext : Nat → Option (List AV → AH → Option (AV × AH))}
/-- All that the first evaluator answers. -/
def XS (P : Program) (K : Knobs) (ext : Nat → Option (List AV → AH → Option (AV × AH))) : ExtV := fun fl f args σ v σ' => SimCall K (lim P ext) fl f args σ v σ'
theorem of_sim {fl f : Nat} {args : List V} {σ : St} {v : V} {σ' : St} (h : SimCall K (lim P ext) fl f args σ v σ') : Big P K (XS P K ext) (.call fl f args σ v σ') := .ext h

theorem pure_sim {f : Nat} {e : List AV → Option AV} (hx : ext f = some (pureExt e)) {fl : Nat} {args : List V} {σ : St} {v : V} (h : ∀ g avs, VAs g args avs → ∃ a, e avs = some a ∧ VA g v a) (hv : v.strip = v) : SimCall K (lim P ext) fl f args σ v σ := by
  intro g Pr H avs hS hva _
  obtain ⟨a, h1, h2⟩ := h g avs hva
  exact ⟨a, H, g, lim_ext hx (by simp [pureExt, h1]), Post.refl hS, h2, noown_strip1 hv⟩
theorem two_str {g : Gh} {s p : Str} {avs : List AV} (h : VAs g [.str s, .str p] avs) : avs = [.str s, .str p] := by
  cases h with
  | cons _ a _ _ h1 h2 =>
    cases h2 with
    | cons _ b _ _ h3 h4 => cases h4; cases h1; cases h3; rfl
theorem str_int {g : Gh} {s : Str} {k : IntKind} {n : Int} {avs : List AV} (h : VAs g [.str s, .int k n] avs) : avs = [.str s, .int k n] := by
  cases h with
  | cons _ a _ _ h1 h2 =>
    cases h2 with
    | cons _ b _ _ h3 h4 => cases h4; cases h1; cases h3; rfl
theorem ascii_of {s : Str} (h : ∀ c ∈ s, c < 128) : ascii s = true := List.all_eq_true.2 fun c hc => by
  have := h c hc
  simp only [decide_eq_true_eq]
  exact this
variable {f : Nat}
theorem X_IndexByte (hx : ext f = some (pureExt eIndexByte)) : S_IndexByte P K (XS P K ext) f := fun fl σ s c _ _ => of_sim (pure_sim hx (fun g avs h => by
  rw [str_int h]
  refine ⟨_, rfl, ?_⟩
  rw [lib_indexByte]
  have : (c.toNat : Int).toNat.toUInt8 = c := by simp
  rw [this]
  exact .int _ _) rfl)
theorem X_HasPrefix (hx : ext f = some (pureExt eHasPrefix)) : S_HasPrefix P K (XS P K ext) f := fun fl σ s p _ _ => of_sim (pure_sim hx (fun g avs h => by
  rw [two_str h]
  exact ⟨_, rfl, .bool _⟩) rfl)
theorem X_Index (hx : ext f = some (pureExt eIndex)) : S_Index P K (XS P K ext) f := fun fl σ s p _ hs => of_sim (pure_sim hx (fun g avs h => by
  rw [two_str h]
  refine ⟨_, by unfold eIndex; simp only; rw [if_pos hs], ?_⟩
  rw [lib_index]
  exact .int _ _) rfl)
theorem X_Contains (hx : ext f = some (pureExt eContains)) : S_Contains P K (XS P K ext) f := fun fl σ s p _ hs => of_sim (pure_sim hx (fun g avs h => by
  rw [two_str h]
  refine ⟨_, by unfold eContains; simp only; rw [if_pos hs], ?_⟩
  rw [lib_contains]
  exact .bool _) rfl)
theorem X_IndexAny (hx : ext f = some (pureExt eIndexAny)) : S_IndexAny P K (XS P K ext) f := fun fl σ s p _ hs h1 h2 h3 => of_sim (pure_sim hx (fun g avs h => by
  rw [two_str h]
  refine ⟨_, by unfold eIndexAny; simp only; rw [if_pos ⟨hs, by omega, ascii_of h1, ascii_of h2⟩], ?_⟩
  rw [lib_indexAny]
  exact .int _ _) rfl)
theorem X_ContainsAny (hx : ext f = some (pureExt eContainsAny)) : S_ContainsAny P K (XS P K ext) f := fun fl σ s p _ hs h1 h2 h3 => of_sim (pure_sim hx (fun g avs h => by
  rw [two_str h]
  refine ⟨_, by unfold eContainsAny; simp only; rw [if_pos ⟨hs, by omega, ascii_of h1, ascii_of h2⟩], ?_⟩
  rw [lib_containsAny]
  exact .bool _) rfl)
theorem X_Repeat (hx : ext f = some (pureExt eRepeat)) : S_Repeat P K (XS P K ext) f := fun fl σ s n _ hn hs => of_sim (pure_sim hx (fun g avs h => by
  rw [str_int h]
  refine ⟨_, by unfold eRepeat; simp only; rw [if_pos ⟨by omega, by omega, by simp only [Int.toNat_natCast]; omega⟩], ?_⟩
  rw [Int.toNat_natCast, lib_repeat]
  exact .str _) rfl)
theorem strsA_words {g : Gh} : ∀ (ws : List Str) (off : Nat) (vs : List AV), (∀ (i : Nat) (el : List V), (ws.map wordCell)[i]? = some el → VAs g el ((vs.drop (off + i * 1)).take 1)) → strsA ((vs.drop off).take ws.length) = some ws
  | [], off, vs, h => by rw [List.length_nil, List.take_zero]; rfl
  | w :: ws, off, vs, h => by
    have h0 := h 0 (wordCell w) rfl
    simp only [Nat.zero_mul, Nat.add_zero] at h0
    cases hd : vs.drop off with
    | nil => rw [hd] at h0; cases h0
    | cons x r =>
      rw [hd] at h0
      have ih := strsA_words ws (off + 1) vs (fun i el hi => by
        have := h (i + 1) el (by simpa using hi)
        rwa [show off + (i + 1) * 1 = off + 1 + i * 1 by omega] at this)
      have hr : vs.drop (off + 1) = r := by rw [← List.drop_drop, hd]; rfl
      rw [hr] at ih
      rw [List.length_cons, List.take_succ_cons]
      cases h0 with
      | cons _ _ _ _ h1 h2 =>
        cases h1
        simp only [strsA, ih, Option.map_some]
theorem join_len (sep : Str) : ∀ (ws : List Str), (sep.intercalate ws).length ≤ (ws.map fun w => w.length + sep.length).sum
  | [] => by simp [List.intercalate]
  | [w] => by simp [List.intercalate]
  | w :: v :: r => by
    have := join_len sep (v :: r)
    simp only [List.intercalate, List.intersperse, List.flatten_cons, List.length_append, List.map_cons, List.sum_cons] at this ⊢
    omega
theorem words_sum (sep : Str) (hs : sep ≠ []) (ws : List Str) : ws.length ≤ (ws.map fun w => w.length + sep.length).sum := by
  have : 1 ≤ sep.length := by cases sep with | nil => exact absurd rfl hs | cons a l => simp
  induction ws with
  | nil => simp
  | cons a ws ih => simp at ih ⊢; omega
theorem X_Join (hx : ext f = some eJoin) : S_Join P K (XS P K ext) f := by
  intro fl σ ws sep _ hn hl
  refine of_sim (fun g Pr H avs hS hva _ => ?_)
  have hjl := join_len sep ws
  have fin : ∀ a, avs = [a, .str sep] → eJoin [a, .str sep] H = some (.str (sep.intercalate ws), H) → ∃ a H' g', lim P ext f avs H = some (a, H') ∧ Post g g' Pr σ σ (if K.quiet f then max fl σ.size else fl) H H' ∧ VA g' (.str (sep.intercalate ws)) a ∧ OwnV g' H' Pr .val (.str (sep.intercalate ws)) a := by
    intro a ha he
    subst ha
    exact ⟨_, H, g, lim_ext hx he, Post.refl hS, .str _, noown_strip1 rfl⟩
  cases hva with
  | cons _ a _ _ h1 h2 =>
    cases h2 with
    | cons _ b _ _ h3 h4 =>
      cases h4; cases h3
      refine fin a rfl ?_
      generalize hel : ws.map wordCell = els at h1
      cases h1 with
      | nils =>
        have : ws = [] := by cases ws with | nil => rfl | cons _ _ => cases hel
        subst this
        rfl
      | vec _ _ b off cap esz vs k1 k2 k3 k4 k5 =>
        subst hel
        cases ws with
        | nil => rfl
        | cons w ws =>
          have hesz : esz = 1 := ((k4 0 (wordCell w) rfl).1).symm
          subst hesz
          obtain ⟨own, hg⟩ := hS.fro b vs k1
          have hst := strsA_words (g := g) (w :: ws) off vs k5
          unfold eJoin
          simp only [List.length_map, List.length_cons, Nat.succ_ne_zero, if_false, ne_eq, not_true_eq_false]
          have hrd : rd H b off (ws.length + 1) = some ((vs.drop off).take (ws.length + 1)) := by
            unfold rd
            rw [hg]
            simp only
            rw [if_pos (by simpa using k3)]
          simp only [List.length_cons] at hst hn
          rw [hrd]
          simp only [Option.bind_some, hst]
          rw [if_pos ⟨by simp only [List.length_cons]; omega, by unfold Lib.join; omega⟩]
          rfl
end
end Go.Vw.Wm
end
section
/- A builder's methods, of the second evaluator. -/
namespace Go.Vw.Wm
open Go Go.RowKit Go.Abs Go.Vw Lx Tr
section
variable {P : Program} {K : Knobs} {ext : Nat → Option (List AV → AH → Option (AV × AH))}

/-- What is asked of the types of a builder's parts: of its bytes, of the slice of them, of texts. -/
structure BldT (P : Program) (uB tS tStr : TypeId) : Prop where
  agg : tAgg P tS = some false
  elem : tElem P tS = some uB
  size : tSize P tS = some 1
  str : P.underlying tStr = some .string
  usize : tSize P uB = some 1
  ubytes : tBytes P uB = some 1
  uzero : (tZero P uB).map (·.length) = some 1

theorem appendT_tag {H H' : AH} {e : TypeId} {s a : AV} {t : List UInt8} (h : appendT P H e s (.str t) = some (a, H')) (hs : s = .nils ∨ ∃ b len, s = .slice b 0 len none 1 ∧ H.ty.get b = some (e, none)) (hlow : H.ty.get H.next = none) (hsz : tSize P e = some 1) :
    a = .nils ∨ ∃ b len, a = .slice b 0 len none 1 ∧ H'.ty.get b = some (e, none) := by
  unfold appendT at h
  simp only [Option.map_eq_some_iff, Prod.mk.injEq] at h
  obtain ⟨⟨a', H1⟩, h1, rfl, rfl⟩ := h
  have new : ∀ {H2 : AH}, H2.ty = H.ty → (H2.tag H.next (e, none)).ty.get H.next = some (e, none) := by
    intro H2 h2
    rw [AH.tag_ty, if_pos ⟨by rw [h2, hlow]; rfl, rfl⟩]
  unfold appendA at h1
  split at h1
  · rename_i size bytes z n nw esz q1 q2 q3 q4
    rw [hsz] at q1
    simp only [Option.some.injEq] at q1
    subst q1
    split at h1
    · rcases hs with rfl | ⟨b, len, rfl, hty⟩
      · simp only at h1
        split at h1
        · simp only [Option.some.injEq, Prod.mk.injEq] at h1
          obtain ⟨rfl, rfl⟩ := h1
          exact .inl rfl
        · split at h1
          · simp only [Option.some.injEq, Prod.mk.injEq] at h1
            obtain ⟨rfl, rfl⟩ := h1
            refine .inr ⟨_, _, rfl, ?_⟩
            unfold tagS
            simp only
            rw [if_pos ⟨trivial, by show H.next + 1 ≠ H.next; omega⟩]
            exact new rfl
          · cases h1
      · simp only at h1
        split at h1
        · simp only [Option.some.injEq, Prod.mk.injEq] at h1
          obtain ⟨rfl, rfl⟩ := h1
          exact .inr ⟨_, _, rfl, by rw [tagS_same]; exact hty⟩
        · rw [if_neg (by simp)] at h1
          split at h1
          · split at h1
            · cases h1
            · split at h1
              · rename_i vs hg
                simp only [Option.some.injEq, Prod.mk.injEq] at h1
                obtain ⟨rfl, rfl⟩ := h1
                refine .inr ⟨_, _, rfl, ?_⟩
                have hnx : ∀ c : AV, ∀ x y, (if (0 + len * 1 = vs.length) then H.sup b x y else (H.drop b).add y).next ≠ H.next := by
                  intro c x y
                  split
                  · show H.next + 1 ≠ H.next; omega
                  · show H.next + 1 ≠ H.next; omega
                unfold tagS
                simp only
                rw [if_pos ⟨trivial, hnx .undef _ _⟩, if_pos ⟨trivial, hty⟩]
                exact new (by split <;> rfl)
              · cases h1
          · cases h1
    · cases h1
  · cases h1

theorem vOp_append {c : Cx} {tk : Bool} {ρ : VEnv} {σ : St} {s x : Operand} {tS tStr e : TypeId} (he : tElem c.P tS = some e) (hu : c.P.underlying tStr = some .string) :
    vOp c tk ρ (.call { callee := .builtin .append, args := #[s, x], argTypes := #[tS, tStr] }) σ = (appendV c.P c.wm c.fl σ e (grab true ρ s).1 (evalV (grab true ρ s).2 x)).map fun r => (r.1, (grab true ρ s).2, r.2) := by
  simp [vOp, he, hu]
theorem evOpE_append {call : CallF} {ρ : Env} {H : AH} {s x : Operand} {tS tStr e : TypeId} (he : tElem P tS = some e) (hu : P.underlying tStr = some .string) :
    evOpE P call (evalE ρ) (.call { callee := .builtin .append, args := #[s, x], argTypes := #[tS, tStr] }) H = appendT P H e (evalE ρ s) (evalE ρ x) := by
  simp [evOpE, builtinA, he, hu]
theorem X_WriteString {f tB uB tS tStr : Nat} (hT : BldT P uB tS tStr) (hq : K.quiet f = false) (hx : ext f = some (eWriteString P tB uB)) : S_WriteString P K (XS P K ext) f tB uB := by
  intro fl σ b s t hfl hp hb hlen
  refine of_sim (fun g Pr H avs hS hva _ => ?_)
  rw [hq]
  simp only [Bool.false_eq_true, if_false]
  cases hva with
  | cons _ a0 _ _ h1 h2 =>
    cases h2 with
    | cons _ a1 _ _ h3 h4 =>
      cases h4; cases h3
      cases h1 with
      | ptr _ _ bb hbb =>
        obtain ⟨ad, had, ⟨cs, e1, e2, e3, e4⟩, e5, e6⟩ := hS.obj b _ bb hb hbb
        have hlow : ∀ x : V, x = .nilp ∨ x = .ptr b 0 → ∀ w : List UInt8, V.lows (max (b + 1) σ.pin) [x, bytesV w] = true := by
          intro x hx w
          simp only [V.lows, Bool.and_eq_true, bytes_low, and_true]
          rcases hx with rfl | rfl
          · rfl
          · simp only [V.low, decide_eq_true_eq]; omega
        obtain ⟨aad, asl, rfl, v0, v1⟩ : ∃ aad asl, cs = [aad, asl] ∧ VA g ad aad ∧ VA g (bytesV s) asl := by
          cases e2 with
          | cons _ x _ _ k1 k2 =>
            cases k2 with
            | cons _ y _ _ k3 k4 => cases k4; exact ⟨x, y, rfl, k1, k3⟩
        have S0 : SR g Pr (σ.put b (.cells [ad, bytesV s])) H := hS.swap hb (fun e => by cases e) hbb ⟨_, e1, e2, e3, e4⟩ (hlow ad had s)
        -- copyCheck
        obtain ⟨H1, c1, c2, S1, F1⟩ : ∃ H1, eCopy tB H bb = some H1 ∧ (H1.get bb = some (.cells [.ptr bb 0, asl] true) ∧ H1.ty = H.ty) ∧ SR g Pr (σ.put b (.cells [.ptr b 0, bytesV s])) H1 ∧ Fr g Pr σ fl H H1 := by
          rcases had with rfl | rfl
          · cases v0
            have halo : Alive σ g b bb := ⟨hbb, _, hb, fun e => by cases e⟩
            obtain ⟨k1, _, k3, k4⟩ := S0.write (g' := g) (o := b) (b := bb) (vs := [.nilp, bytesV s]) (vs' := [.ptr b 0, bytesV s]) (as' := [.ptr bb 0, asl]) (by rw [get_put σ hb, if_pos rfl]) hbb e1 rfl rfl (fun _ _ _ _ _ h => h) (.cons _ _ _ _ (.ptr _ _ _ hbb) (.cons _ _ _ _ v1 .nil)) rfl (by
              intro j v a hv ha
              cases j with
              | zero =>
                simp only [List.getElem?_cons_zero, Option.some.injEq] at hv ha
                subst hv
                intro els e; cases e
              | succ j =>
                have := e4 (j + 1) v a (by simpa using hv) (by simpa using ha)
                refine this.keep ?_ (fun c hc hu => ⟨hu, ?_⟩)
                · cases j with
                  | zero =>
                    simp only [Nat.zero_add, List.getElem?_cons_succ, List.getElem?_cons_zero, Option.some.injEq] at hv ha
                    subst hv; subst ha
                    exact v1
                  | succ j => simp at hv
                · obtain ⟨q1, q2⟩ := hS.sep b bb halo
                  have hkin := hS.kin b bb c halo hc
                  have hcb : c ≠ bb := fun e => by subst e; exact hc q1
                  refine ⟨fun x hx => ?_, AH.oldAt_wput _ _ _ _, AH.kinAt_wput _ _ _ _, fun hd => ?_⟩
                  · rw [AH.get_wput H e1 q2, if_neg hcb, if_neg (fun k => hkin k.2)]; exact hx
                  · show ((H.put bb _).kill bb).dead.get _ = none
                    rw [AH.dead_kill, AH.kinAt_put _ _ _ _ (fun _ => rfl), if_neg hkin]
                    exact hd) σ.pin (Nat.le_refl _) (hlow (.ptr b 0) (.inr rfl) s)
            have hob := (hS.sep b bb halo).2
            refine ⟨H.wput bb (.cells [.ptr bb 0, asl] true), ?_, ⟨?_, rfl⟩, ?_, ⟨fun c hc => k3 c (hS.pr c hc), fun o' b' ho hal => ?_, Nat.le_refl _, fun _ _ h => h⟩⟩
            · unfold eCopy; rw [e1]; simp only; rw [if_pos e5]
            · rw [AH.get_wput H e1 hob, if_pos rfl]
            · have : (⟨putO (σ.put b (.cells [.nilp, bytesV s])).objs b (.cells [.ptr b 0, bytesV s]), σ.pin⟩ : St) = σ.put b (.cells [.ptr b 0, bytesV s]) := put_put σ b _ _
              rw [this] at k1
              exact k1
            · obtain ⟨d1, d2⟩ := hS.dist o' b b' bb hal halo (by omega)
              rw [AH.get_wput H e1 hob, if_neg d1, if_neg (fun k => d2 k.2)]
          · cases v0 with
            | ptr _ _ b2 hb2 =>
              rw [hbb] at hb2
              simp only [Option.some.injEq] at hb2
              subst hb2
              exact ⟨H, by unfold eCopy; rw [e1]; simp only; rw [if_pos e5]; simp, ⟨e1, rfl⟩, S0, Fr.refl _ _ _ _ _⟩
        obtain ⟨c2, c3⟩ := c2
        -- the three operations
        let ρ0 : VEnv := fun t' => if t' = 0 then .ptr b 1 else if t' = 1 then .str t else .undef
        let ρA : Env := fun t' => if t' = 0 then .ptr bb 1 else if t' = 1 then .str t else .undef
        have E1 : ER g H1 Pr ρ0 ρA := by
          intro t'
          by_cases e : t' = 0
          · subst e; exact ⟨.ptr _ _ _ hbb, OwnV.ptr⟩
          · by_cases e2 : t' = 1
            · subst e2; exact ⟨.str _, noown_strip1 rfl⟩
            · have h0 : ρ0 t' = .undef := by show (if t' = 0 then _ else _) = _; rw [if_neg e, if_neg e2]
              rw [h0]
              exact ⟨.undef _, OwnV.scalar (fun _ e => by cases e) rfl⟩
        have hg1 : (σ.put b (.cells [.ptr b 0, bytesV s])).get b = some (.cells [.ptr b 0, bytesV s]) := by rw [get_put σ hb, if_pos rfl]
        have opL : vOp ⟨P, fun _ => false, fl⟩ true ρ0 (.load tS (.tmp 0)) (σ.put b (.cells [.ptr b 0, bytesV s])) = some (bytesV s, ρ0, (σ.put b (.cells [.ptr b 0, bytesV s])).put b (.cells [.ptr b 0, (bytesV s).strip1])) := by
          have hav : asVal P tS [.ptr b 0, bytesV s] 1 = some (bytesV s) := by
            unfold asVal; rw [hT.agg]; rfl
          have : evalV ρ0 (.tmp 0) = .ptr b 1 := rfl
          simp only [vOp, this, hg1, hav, if_true, hfl]
          rfl
        obtain ⟨a2, H2, g2, o1, o2, o3, o4, o5, o6, o7⟩ := vOp_sim (call := lim P ext) E1 S1 opL
        have hH2 : H2 = H1 ∧ a2 = asl := by
          have hA : evalE ρA (.tmp 0) = .ptr bb 1 := rfl
          simp only [evOpE, hA, Option.map_eq_some_iff, Prod.mk.injEq] at o1
          obtain ⟨x, x1, rfl, rfl⟩ := o1
          refine ⟨rfl, ?_⟩
          unfold loadA at x1
          rw [hT.agg] at x1
          simp only [rd, c2] at x1
          simpa using x1.symm
        obtain ⟨rfl, rfl⟩ := hH2
        obtain ⟨g3, m1, m2, m3, m4⟩ := o4.set o3 o5 o6 (some 2)
        rw [put_put] at m3
        have opA : vOp ⟨P, fun _ => false, fl⟩ false (updVD ρ0 (some 2) (bytesV s)) (.call { callee := .builtin .append, args := #[.tmp 2, .tmp 1], argTypes := #[tS, tStr] }) (σ.put b (.cells [.ptr b 0, (bytesV s).strip1])) = some (bytesV (s ++ t), updV (updVD ρ0 (some 2) (bytesV s)) 2 (bytesV s).strip, σ.put b (.cells [.ptr b 0, (bytesV s).strip1])) := by
          have h2 : (updVD ρ0 (some 2) (bytesV s)) 2 = bytesV s := rfl
          have h1 : (updV (updVD ρ0 (some 2) (bytesV s)) 2 (bytesV s).strip) 1 = .str t := rfl
          have hz : ∃ z, tZero P uB = some z ∧ z.length = 1 := by
            have := hT.uzero
            cases hq : tZero P uB with
            | none => rw [hq] at this; cases this
            | some z => rw [hq] at this; exact ⟨z, rfl, by simpa using this⟩
          obtain ⟨z, hz1, hz2⟩ := hz
          have happ : appendV P (fun _ => false) fl (σ.put b (.cells [.ptr b 0, (bytesV s).strip1])) uB (bytesV s) (.str t) = some (bytesV (s ++ t), σ.put b (.cells [.ptr b 0, (bytesV s).strip1])) := by
            unfold appendV
            simp only [hT.usize, hT.ubytes, hz1, hz2, srcV, if_true, bytesV, Nat.lt_one_iff, true_and]
            by_cases ht : t = []
            · subst ht; simp
            · have hf : fits 1 ((s.map fun c => [byteCellV c]).length + (t.map fun c => [byteCellV c]).length) := by
                simp only [List.length_map]
                unfold fits; omega
              have hall : (s.map fun c => [byteCellV c]).all (fun e => decide (e.length = 1)) = true := by
                rw [List.all_eq_true]; intro x hx; obtain ⟨c, _, rfl⟩ := List.mem_map.1 hx; rfl
              rw [if_neg (by simpa using ht), if_pos ⟨hf, hall⟩]
              simp
          rw [vOp_append hT.elem hT.str]
          show (appendV P (fun _ => false) fl (σ.put b (.cells [.ptr b 0, (bytesV s).strip1])) uB (bytesV s) (.str t)).map _ = _
          rw [happ]
          rfl
        obtain ⟨a4, H4, g4, p1, p2, p3, p4, p5, p6, p7⟩ := vOp_sim (call := lim P ext) m4 m3 opA
        rw [evOpE_append hT.elem hT.str] at p1
        have happ : appendT P H2 uB a2 (.str t) = some (a4, H4) := p1
        have htag := appendT_tag happ (by
          have := e6 _ e1 aad
          unfold bytesV at v1
          generalize (s.map fun c => [byteCellV c]) = w at v1
          cases v1 with
          | nils => exact .inl rfl
          | vec _ _ b' off cap esz vs =>
            obtain ⟨q1, q2, q3, q4, q5⟩ := this b' off _ cap esz rfl
            subst q1; subst q2; subst q3
            exact .inr ⟨_, _, rfl, by rw [c3]; exact q5⟩) (S1.tlow _ (Nat.le_refl _)) hT.usize
        obtain ⟨g5, n1, n2, n3, n4⟩ := p4.set p3 p5 p6 (some 3)
        have hg5 : (σ.put b (.cells [.ptr b 0, (bytesV s).strip1])).get b = some (.cells [.ptr b 0, (bytesV s).strip1]) := by rw [get_put σ hb, if_pos rfl]
        let ρ3 : VEnv := updVD (updV (updVD ρ0 (some 2) (bytesV s)) 2 (bytesV s).strip) (some 3) (bytesV (s ++ t))
        have opS : vOp ⟨P, fun _ => false, fl⟩ true ρ3 (.store tS (.tmp 0) (.tmp 3)) (σ.put b (.cells [.ptr b 0, (bytesV s).strip1])) = some (.undef, updV ρ3 3 (bytesV (s ++ t)).strip, σ.put b (.cells [.ptr b 0, bytesV (s ++ t)])) := by
          have h0 : evalV ρ3 (.tmp 0) = .ptr b 1 := rfl
          have h3 : grab true ρ3 (.tmp 3) = (bytesV (s ++ t), updV ρ3 3 (bytesV (s ++ t)).strip) := rfl
          simp only [vOp, h0, hg5, h3]
          rw [if_pos ⟨rfl, hT.size, by simp [bytesV, V.cells], hfl⟩]
          have hpin : (bytesV (s ++ t)).pins b (σ.put b (.cells [.ptr b 0, (bytesV s).strip1])).size (σ.put b (.cells [.ptr b 0, (bytesV s).strip1])).pin = σ.pin := by
            unfold V.pins
            rw [if_pos (bytes_low _ _)]
            rfl
          rw [hpin]
          have : (⟨putO (σ.put b (.cells [.ptr b 0, (bytesV s).strip1])).objs b (.cells (splice [.ptr b 0, (bytesV s).strip1] 1 (bytesV (s ++ t)).cells)), σ.pin⟩ : St) = σ.put b (.cells [.ptr b 0, bytesV (s ++ t)]) := put_put σ b _ _
          rw [this]
        obtain ⟨a6, H6, g6, s1, s2, s3, s4, s5, s6, s7⟩ := vOp_sim (call := lim P ext) n4 n3 opS
        have l1 : g.Le g3 := o2.trans (SR.like o3 m1 m2)
        have l2 : g.Le g5 := l1.trans (p2.trans (SR.like p3 n1 n2))
        have l3 : g.Le g6 := l2.trans s2
        obtain ⟨cs4, f1, f2, _, _⟩ := n3.obj b _ bb hg5 (l2.blk _ _ hbb)
        obtain ⟨x0, x1, rfl⟩ : ∃ x0 x1, cs4 = [x0, x1] := by
          cases f2 with
          | cons _ x _ _ k1 k2 =>
            cases k2 with
            | cons _ y _ _ k3 k4 => cases k4; exact ⟨x, y, rfl⟩
        have hsl : isSl a4 = true ∧ a4.cells = [a4] := by
          rcases htag with rfl | ⟨_, _, rfl, _⟩ <;> exact ⟨rfl, rfl⟩
        have hH6 : H6 = H4.wput bb (.cells [x0, a4] true) := by
          have hA0 : evalE (updD (updD ρA (some 2) a2) (some 3) a4) (.tmp 0) = .ptr bb 1 := rfl
          have hA3 : evalE (updD (updD ρA (some 2) a2) (some 3) a4) (.tmp 3) = a4 := rfl
          simp only [evOpE, hA0, hA3, Option.map_eq_some_iff, Prod.mk.injEq] at s1
          obtain ⟨H7, h7, _, rfl⟩ := s1
          unfold storeA at h7
          split at h7
          · unfold wr at h7
            rw [f1] at h7
            simp only [hsl.2] at h7
            split at h7
            · simp only [Option.some.injEq] at h7
              exact h7.symm
            · cases h7
          · cases h7
        have hext : eWriteString P tB uB [.ptr bb 0, .str t] H = some (.tuple [.int .i64 t.length, .nili], H6) := by
          unfold eWriteString
          simp only [c1, c2, happ, f1, hsl.1, if_true, hH6]
        have hput : ∀ x : VObj, ∀ o, o < fl → (σ.put b x).get o = σ.get o := fun x o ho => get_put_ne σ x (by omega)
        have hfr : Fr g Pr σ fl H H6 := by
          refine ⟨fun c hc => (F1.pr c hc).trans ((p7.pr c hc).trans (s7.pr c hc)), fun o bo ho hal => ?_, Nat.le_trans F1.next (Nat.le_trans p7.next s7.next), fun c u k => s7.ty c u (p7.ty c u (F1.ty c u k))⟩
          have al : ∀ (x : VObj) (g' : Gh), g.Le g' → Alive (σ.put b x) g' o bo := fun x g' hl => ⟨hl.blk _ _ hal.1, by obtain ⟨y, h1, h2⟩ := hal.2; exact ⟨y, by rw [hput x o ho]; exact h1, h2⟩⟩
          rw [s7.fl o bo ho (al _ _ l2), p7.fl o bo ho (al _ _ l1), F1.fl o bo ho hal]
        have hg6 : (σ.put b (.cells [.ptr b 0, bytesV (s ++ t)])).get b = some (.cells [.ptr b 0, bytesV (s ++ t)]) := by rw [get_put σ hb, if_pos rfl]
        have hbb6 := l3.blk _ _ hbb
        have hobj := s3.obj b _ bb hg6 hbb6
        have hty : H6.ty.get bb = some (tB, some 2) := s7.ty _ _ (p7.ty _ _ (by rw [c3]; exact e5))
        have hgb6 : H6.get bb = some (.cells [x0, a4] true) := by
          rw [hH6, AH.get_wput H4 f1 (n3.sep b bb ⟨l2.blk _ _ hbb, _, hg5, fun e => by cases e⟩).2, if_pos rfl]
        have hbld : ObjR g6 H6 Pr b bb (.bld tB uB (s ++ t)) := by
          refine ⟨.ptr b 0, .inr rfl, hobj, hty, fun x hx a b' off len cap esz e => ?_⟩
          rw [hgb6] at hx
          subst e
          simp only [Option.some.injEq, AObj.cells.injEq, List.cons.injEq, and_true] at hx
          obtain ⟨_, hx⟩ := hx
          rcases htag with k | ⟨b2, len2, k, k2⟩
          · rw [k] at hx; cases hx
          · rw [k] at hx
            simp only [AV.slice.injEq] at hx
            obtain ⟨rfl, rfl, rfl, rfl, rfl⟩ := hx
            refine ⟨rfl, rfl, rfl, ?_, s7.ty _ _ k2⟩
            rw [k] at p5
            unfold bytesV at p5
            have hl : ((s ++ t).map fun c => [byteCellV c]).length = (s ++ t).length := List.length_map ..
            generalize ((s ++ t).map fun c => [byteCellV c]) = els at p5 hl
            cases p5 with
            | vec => exact hl
        have hsr := s3.swap hg6 (fun e => by cases e) hbb6 hbld trivial
        rw [put_put] at hsr
        refine ⟨_, H6, g6, lim_ext hx hext, ⟨l3, hsr, hfr, by rw [size_put]; exact Nat.le_refl _, fun o ho _ => hput _ o ho⟩, .tuple _ _ (.cons _ _ _ _ (.int _ _) (.cons _ _ _ _ (.undef _) .nil)), OwnV.scalar (fun _ e => by cases e) rfl⟩

theorem unbytes_of {g : Gh} : ∀ (s : Str) (off : Nat) (vs : List AV), (∀ (i : Nat) (el : List V), (s.map fun c => [byteCellV c])[i]? = some el → VAs g el ((vs.drop (off + i * 1)).take 1)) → unbytes ((vs.drop off).take s.length) = some s
  | [], off, vs, h => by rw [List.length_nil, List.take_zero]; rfl
  | c :: s, off, vs, h => by
    have h0 := h 0 [byteCellV c] rfl
    simp only [Nat.zero_mul, Nat.add_zero] at h0
    cases hd : vs.drop off with
    | nil => rw [hd] at h0; cases h0
    | cons x r =>
      rw [hd] at h0
      have ih := unbytes_of s (off + 1) vs (fun i el hi => by
        have := h (i + 1) el (by simpa using hi)
        rwa [show off + (i + 1) * 1 = off + 1 + i * 1 by omega] at this)
      have hr : vs.drop (off + 1) = r := by rw [← List.drop_drop, hd]; rfl
      rw [hr] at ih
      rw [List.length_cons, List.take_succ_cons]
      cases h0 with
      | cons _ _ _ _ h1 h2 =>
        unfold byteCellV at h1
        cases h1
        have hb : unbyte (.int .u8 (c.toNat : Int)) = some c := by
          unfold unbyte
          have := c.toNat_lt
          simp only
          rw [if_pos ⟨by omega, by omega⟩]
          simp
        simp only [unbytes, ih, hb]
theorem X_String {f tB uB : Nat} (hq : K.quiet f = false) (hx : ext f = some (eString tB uB)) : S_String P K (XS P K ext) f tB uB := by
  intro fl σ b s hfl _ hb hlen
  refine of_sim (fun g Pr H avs hS hva _ => ?_)
  rw [hq]
  simp only [Bool.false_eq_true, if_false]
  cases hva with
  | cons _ a0 _ _ h1 h2 =>
    cases h2
    cases h1 with
    | ptr _ _ bb hbb =>
      obtain ⟨ad, had, ⟨cs, e1, e2, e3, e4⟩, e5, e6⟩ := hS.obj b _ bb hb hbb
      obtain ⟨aad, asl, rfl, v0, v1⟩ : ∃ aad asl, cs = [aad, asl] ∧ VA g ad aad ∧ VA g (bytesV s) asl := by
        cases e2 with
        | cons _ x _ _ k1 k2 =>
          cases k2 with
          | cons _ y _ _ k3 k4 => cases k4; exact ⟨x, y, rfl, k1, k3⟩
      have S0 : SR g Pr (σ.put b .dead) H := hS.swap hb (fun e => by cases e) hbb trivial trivial
      have hst : Stays fl σ (σ.put b .dead) := ⟨by rw [size_put]; exact Nat.le_refl _, fun o ho _ => get_put_ne σ _ (by omega)⟩
      have o1 := e4 1 (bytesV s) asl rfl rfl _ rfl
      unfold bytesV at v1
      have hl : (s.map fun c => [byteCellV c]).length = s.length := List.length_map ..
      have hub := unbytes_of (g := g) s
      have hnil : (s.map fun c => [byteCellV c]) = [] → s = [] := fun h => List.map_eq_nil_iff.1 h
      generalize (s.map fun c => [byteCellV c]) = els at v1 hl o1 hub hnil
      cases v1 with
      | nils =>
        have : s = [] := hnil rfl
        subst this
        exact ⟨_, H, g, lim_ext hx (by unfold eString; simp only [e1]; rw [if_pos e5]), ⟨Gh.Le.refl g, S0, Fr.refl _ _ _ _ _, hst⟩, .str _, noown_strip1 rfl⟩
      | vec _ _ b2 off cap esz vs k1 k2 k3 k4 k5 =>
        obtain ⟨q1, q2, q3, q4, q5⟩ := e6 _ e1 aad b2 off _ cap esz rfl
        subst q1; subst q2; subst q3
        have o1 : els ≠ [] ∧ g.U b2 = some (.cell b 1) ∧ ¬ Pr b2 ∧ ∃ ws, H.get b2 = some (.cells ws true) := by
          rcases o1 with ⟨_, h⟩ | ⟨b3, _, _, _, h, h2⟩
          · cases h
          · simp only [AV.slice.injEq] at h
            obtain ⟨rfl, _, _, rfl, _⟩ := h
            rcases h2 with ⟨c, hc, _⟩ | ⟨_, h0, h1, h2, _, _, ws, h3, _⟩
            · cases hc
            · exact ⟨h0, h1, h2, ws, h3⟩
        obtain ⟨r0, r1, r2, ws, r3⟩ := o1
        obtain ⟨own, k1'⟩ := hS.fro b2 vs k1
        have hvs : H.get b2 = some (.cells vs true) := by
          rw [r3] at k1' ⊢
          simp only [Option.some.injEq, AObj.cells.injEq] at k1'
          rw [k1'.1]
        have hput := AH.get_put H hvs (.cells vs false)
        have hold : ∀ c, (H.put b2 (some (.cells vs false))).oldAt c = H.oldAt c := fun c => by
          rw [AH.oldAt_put]
          split
          · rename_i e; subst e; rfl
          · rfl
        have hkin : ∀ c, (H.put b2 (some (.cells vs false))).kinAt c = H.kinAt c := fun c => AH.kinAt_put _ _ _ _ (fun _ => rfl)
        have hk : ∀ c, c ≠ b2 → Keep H (H.put b2 (some (.cells vs false))) c := fun c hc => ⟨fun x hx => by rw [hput, if_neg hc]; exact hx, hold c, hkin c, fun h => h⟩
        have hne : ∀ o bo, Alive (σ.put b .dead) g o bo → bo ≠ b2 := fun o bo hal e => by
          subst e
          have := (S0.sep o _ hal).1
          rw [k1] at this; cases this
        have hne' : ∀ o bo, Alive σ g o bo → bo ≠ b2 := fun o bo hal e => by
          subst e
          have := (hS.sep o _ hal).1
          rw [k1] at this; cases this
        have hlt : b2 < H.next := hS.Clt k1
        have S1 : SR g Pr (σ.put b .dead) (H.put b2 (some (.cells vs false))) := by
          refine ⟨S0.len, fun o x bo h1 h2 => ?_, fun c ws' hc => ?_, S0.pr, fun o c hal => by rw [hold]; exact S0.sep o c hal, fun o o' c c' k k' hn => by rw [hkin, hkin]; exact S0.dist o o' c c' k k' hn,
            fun o c j k hc => by rw [hkin, hkin]; exact S0.kin o c j k hc, fun j hj => ?_, fun c hc => ?_, S0.dlow, S0.pin, S0.blt, S0.tlow⟩
          · by_cases hd : x = .dead
            · subst hd; trivial
            · have hob : o ≠ b := fun e => by
                subst e
                rw [get_put σ hb, if_pos rfl] at h1
                simp only [Option.some.injEq] at h1
                exact hd h1.symm
              refine (S0.obj o x bo h1 h2).keep (Gh.Le.refl g) (fun c j _ hu => ⟨hu, hk c (fun e => ?_)⟩) (by rw [hput, if_neg (hne o bo ⟨h2, x, h1, hd⟩)]) (fun _ _ h => h)
              subst e
              rw [r1] at hu
              simp only [Option.some.injEq, Pos.cell.injEq] at hu
              exact hob hu.1.symm
          · rw [hput]
            by_cases e : c = b2
            · subst e
              rw [k1] at hc
              simp only [Option.some.injEq] at hc
              subst hc
              exact ⟨false, if_pos rfl⟩
            · rw [if_neg e]; exact S0.fro c ws' hc
          · rw [hkin]
            refine S0.kinlt j (fun e => hj ?_)
            rw [hput]
            by_cases e2 : j = b2
            · subst e2; rw [hvs] at e; cases e
            · rw [if_neg e2]; exact e
          · have hc' : H.next ≤ c := hc
            rw [hput, if_neg (by omega)]
            exact S0.low c hc'
        have hub' := hub 0 vs k5
        have hrd : rd H b2 0 els.length = some ((vs.drop 0).take els.length) := by
          unfold rd
          rw [hvs]
          simp only
          rw [if_pos (by omega)]
        refine ⟨.str s, H.put b2 (some (.cells vs false)), g, lim_ext hx ?_, ⟨Gh.Le.refl g, S1, ⟨fun c hc => hk c (fun e => by subst e; exact r2 hc), fun o bo ho hal => by rw [hput, if_neg (hne' o bo hal)], Nat.le_refl _, fun _ _ h => h⟩, hst⟩, .str _, noown_strip1 rfl⟩
        unfold eString
        simp only [e1]
        rw [if_pos e5]
        simp only [hvs]
        rw [if_pos ⟨by rw [ne_eq, List.length_eq_zero_iff]; exact r0, by omega, q5⟩, hrd, hl]
        simp only [Option.bind_some, hub']
end
end Go.Vw.Wm
end
section
/- The walk of lex.Tokens. -/
namespace Go.Vw.Wm
open Go Go.RowKit Go.Abs Go.Vw Lx Tr
set_option maxRecDepth 20000
set_option linter.unusedSimpArgs false
set_option linter.unusedVariables false
variable {P : Program} {K : Knobs} {X : ExtV}

def resApp (out : List Tok) : Res (List Tok) → Res (List Tok)
  | .ok ts => .ok (out ++ ts)
  | .err p e => .err p e
theorem resApp_push (out : List Tok) (t : Tok) (r : Res (List Tok)) : resApp out (r.push t) = resApp (out ++ [t]) r := by
  cases r <;> simp [resApp, Res.push]
section
variable {wm : TypeId → Bool} {n fl : Nat} {Q : Ex → VEnv → St → Prop} {k : List Lf} {σ0 : St} {ft : Nat} {s : Str} {a : List V}
theorem Tokens_loop (hfl : fl ≤ σ0.size) (hp : σ0.pin ≤ σ0.size) (htk : S_token P K X ft)
    (hE : ∀ ρ' ts r, ρ' 7 = .vec true (ts.map encT) → ρ' 3 = .ptr σ0.size 0 → toks ⟨1, 1⟩ s = .ok ts → contM P K X wm n fl true Q k (.exit 0) ρ' (((σ0.push (.cells (encP ⟨0, 0⟩))).push (.cells a)).push (.cells r)))
    (hR : ∀ ρ' p e r t, ρ' 2 = .vec true [] → ρ' 3 = .ptr σ0.size 0 → ρ' 4 = .int .i64 e → toks ⟨1, 1⟩ s = .err p e → contM P K X wm n fl true Q k .ret ρ' ((((σ0.push (.cells (encP p))).push (.cells a)).push (.cells r)).push (.cells t))) :
    ∀ (m : Nat) (l : Str) (p : Pos) (out : List Tok) (ρ : VEnv), l.length ≤ m → resApp out (toks p l) = toks ⟨1, 1⟩ s → l.length ≤ 65536 → posOK p l.length → (∀ d ∈ l, d < 128) → out.length + l.length ≤ 16777216 → ρ 3 = .ptr σ0.size 0 → ρ 8 = .ptr (σ0.size + 1 + 1) 0 → ρ 7 = .vec true (out.map encT) →
      loopM P K X wm n fl true Q (l_lex_Tokens_0 ft) k ρ (((σ0.push (.cells (encP ⟨0, 0⟩))).push (.cells a)).push (.cells (encR l p))) := by
  intro m
  induction m with
  | zero =>
    intro l p out ρ hm ha hl hb has ho r3 r8 r7
    have : l = [] := List.eq_nil_of_length_eq_zero (Nat.le_zero.1 hm)
    subst this
    refine loopM_at (l_lex_Tokens_0.eq_1 _) ?_
    simp [r8, nearq hfl, pinned hp, encR]
    refine contM_to (hE _ out (encR [] p) ?_ ?_ ?_) ?_
    · simp [r7]
    · simp [r3]
    · rw [← ha, toks_nil]; simp [resApp]
    · simp [encR]
  | succ m ih =>
    intro l p out ρ hm ha hl hb has ho r3 r8 r7
    cases l with
    | nil =>
      refine loopM_at (l_lex_Tokens_0.eq_1 _) ?_
      simp [r8, nearq hfl, pinned hp, encR]
      refine contM_to (hE _ out (encR [] p) ?_ ?_ ?_) ?_
      · simp [r7]
      · simp [r3]
      · rw [← ha, toks_nil]; simp [resApp]
      · simp [encR]
    | cons c t =>
      refine loopM_at (l_lex_Tokens_0.eq_1 _) ?_
      simp [r8, nearq hfl, pinned hp, encR]
      refine callM_of (htk _ _ _ c t p (by simp [nearq hfl]) (by simp [pinned hp]) (by simp [encR]) hl hb has) ?_
      have htook := tok1_took c t
      rw [toks_cons] at ha
      cases h1 : tok1 (c :: t) with
      | bad =>
        rw [h1] at ha
        simp [tokOut, tokTook, encT, encP, nearq hfl, pinned hp, r3]
        refine contM_to (hR _ p 71 (encR (c :: t) p) (encT ⟨1, [], p⟩) ?_ ?_ ?_ ?_) ?_
        · simp
        · simp [r3]
        · simp
        · rw [← ha]; rfl
        · simp [encR, encT, encP, Lx.advs]
      | skip j =>
        rw [h1] at ha htook
        simp only [T1.took] at htook
        have hda : posOK (advs p ((c :: t).take j)) ((c :: t).drop j).length := posOK.advs _ (by rw [show ((c :: t).take j).length + ((c :: t).drop j).length = (c :: t).length by rw [← List.length_append, List.take_append_drop]]; exact hb)
        have hdl : ((c :: t).drop j).length = (c :: t).length - j := List.length_drop
        simp [tokOut, tokTook, encT, encP, nearq hfl, pinned hp, r3]
        refine loopM_to (ih ((c :: t).drop j) (advs p ((c :: t).take j)) out _ (by omega) ha (by omega) hda (fun d hd => has d (List.mem_of_mem_drop hd)) (by omega) ?_ ?_ ?_) ?_
        · simp [r3]
        · simp [r8]
        · simp [r7]
        · simp [encP]
      | tok kd tx j =>
        rw [h1] at ha htook
        simp only [T1.took] at htook
        have hda : posOK (advs p ((c :: t).take j)) ((c :: t).drop j).length := posOK.advs _ (by rw [show ((c :: t).take j).length + ((c :: t).drop j).length = (c :: t).length by rw [← List.length_append, List.take_append_drop]]; exact hb)
        have hdl : ((c :: t).drop j).length = (c :: t).length - j := List.length_drop
        have ho1 : out.length + 1 ≤ 33554432 := by omega
        simp only [resApp_push] at ha
        simp [tokOut, tokTook, encT, encP, nearq hfl, pinned hp, r3, r7, ho1]
        refine loopM_to (ih ((c :: t).drop j) (advs p ((c :: t).take j)) (out ++ [⟨kd, tx, p⟩]) _ (by omega) ha (by omega) hda (fun d hd => has d (List.mem_of_mem_drop hd)) (by simp at hdl ho htook ⊢; omega) ?_ ?_ ?_) ?_
        · simp [r3]
        · simp [r8]
        · simp [encT, encP]
        · simp [encP]
end
def tokensOut : Res (List Tok) → V
  | .ok ts => .tuple [.vec false (ts.map encT), .agg (encP ⟨0, 0⟩), .int .i64 0]
  | .err p e => .tuple [.vec false [], .agg (encP p), .int .i64 e]
def S_Tokens (P : Program) (K : Knobs) (X : ExtV) (f : Nat) : Prop := ∀ (fl : Nat) (σ : St) (s : Str), fl ≤ σ.size → σ.pin ≤ σ.size →
    Big P K X (.call fl f [.str s] σ (tokensOut (tokens s)) σ)
theorem check_zero {s : Str} (h : (check s).2 = 0) : check s = (⟨0, 0⟩, 0) ∧ s.length ≤ 65536 := by
  have hb := check_ok_bytes h
  unfold Lx.check at h ⊢
  split at h
  · simp at h
  · rename_i hl
    rw [if_neg hl]
    refine ⟨?_, by omega⟩
    have key : ∀ (l : Str) (p : Pos), (checkL p l).2 = 0 → checkL p l = (⟨0, 0⟩, 0) := by
      intro l
      induction l with
      | nil => intro p _; rfl
      | cons a l ih =>
        intro p h
        rw [checkL] at h ⊢
        split at h
        · simp at h
        · rename_i h1
          rw [if_neg h1]
          split at h
          · rename_i h2; rw [if_pos h2]; exact ih _ h
          · rename_i h2
            rw [if_neg h2]
            split at h
            · simp at h
            · rename_i h3; rw [if_neg h3]; exact ih _ h
    exact key _ _ h
theorem Tokens_ok {f fc ft : Nat} (hc : S_check P K X fc) (ht : S_token P K X ft) (H : Has P K f false (c_lex_Tokens fc ft)) : S_Tokens P K X f := by
  intro fl σ s hfl hp
  refine H_call H (Nat.le_of_ble_eq_true rfl) ?_
  simp [c_lex_Tokens]
  refine callM_of (hc _ _ s (by simp [nearq hfl]) (by simp [pinned hp])) ?_
  unfold Lx.tokens
  cases hck : Lx.check s with
  | mk p e =>
    by_cases he : e = 0
    · have hz := check_zero (s := s) (by rw [hck]; exact he)
      have hb := check_ok_bytes (l := s) (by rw [hck]; exact he)
      rw [hck] at hz
      simp only [Prod.mk.injEq] at hz
      obtain ⟨⟨rfl, rfl⟩, hl⟩ := hz
      have hasc : ∀ d ∈ s, d < 128 := by
        intro d hd
        rcases hb d hd with h | ⟨h1, h2⟩
        · subst h; decide
        · rw [UInt8.lt_iff_toNat_lt]
          have : ¬ 126 < d.toNat := fun h => h2 (by rw [gt_iff_lt, UInt8.lt_iff_toNat_lt]; exact h)
          have : (128 : UInt8).toNat = 128 := rfl
          omega
      simp [nearq hfl, pinned hp, encP]
      refine loopM_to (Tokens_loop (a := encP ⟨0, 0⟩) (s := s) hfl hp ht ?_ ?_ s.length s ⟨1, 1⟩ [] _ (Nat.le_refl _) ?_ hl ?_ hasc ?_ ?_ ?_ ?_) ?_
      · intro ρ' ts r r7 r3 hts
        rw [hts]
        simp [r7, r3, nearq hfl, pinned hp, encP, tokensOut]
      · intro ρ' p e r t r2 r3 r4 hts
        rw [hts]
        simp [r2, r3, r4, nearq hfl, pinned hp, encP, tokensOut]
      · cases toks ⟨1, 1⟩ s <;> simp [resApp]
      · unfold posOK; simp; omega
      · simp; omega
      all_goals simp [encP, encR]
    · simp [he, encP, nearq hfl, pinned hp, tokensOut]
end Go.Vw.Wm
end
section
/- What parsing leaves: a piece of what was there. -/
namespace Tr
open Lx

def LG {ts : List Tok} : PR (List Node) → Prop
  | .ok a r => r <:+ ts ∧ a.length + r.length ≤ ts.length
  | .err _ e => e ≠ 0
theorem behind_suf (ts : List Tok) : behind ts <:+ ts := List.dropWhile_suffix _
theorem span_len (ts : List Tok) : (wordsOf ts).length + (behind ts).length = ts.length := by
  have := congrArg List.length (List.takeWhile_append_dropWhile (p := plain) (l := ts))
  rw [List.length_append] at this
  exact this
theorem pLS : ∀ (N : Nat), (∀ (ts : List Tok) (deep : Nat) (op : Pos), ts.length ≤ N → LG (ts := ts) (pL deep op ts)) ∧ (∀ (t0 : Tok) (r0 : List Tok) (deep : Nat), r0.length + 1 ≤ N → t0.kind = 1 → LG (ts := t0 :: r0) (pS deep (t0 :: r0))) := by
  intro N
  induction N with
  | zero =>
    refine ⟨fun ts deep op h => ?_, fun t0 r0 deep h => by omega⟩
    have : ts = [] := List.eq_nil_of_length_eq_zero (by omega)
    subst this
    rw [pL_nil]
    split <;> simp [LG]
  | succ N ih =>
    obtain ⟨ihL, ihS⟩ := ih
    have hS : ∀ (t0 : Tok) (r0 : List Tok) (deep : Nat), r0.length + 1 ≤ N + 1 → t0.kind = 1 → LG (ts := t0 :: r0) (pS deep (t0 :: r0)) := by
      intro t0 r0 deep h h0
      rw [pS_cons deep t0 r0 h0]
      have hb := behind_lt (ts := r0) h0
      have hs := behind_suf (t0 :: r0)
      have hl := span_len (t0 :: r0)
      cases hbe : behind (t0 :: r0) with
      | nil => simp [LG]
      | cons t r =>
        rw [hbe] at hb hs hl
        have hr : r <:+ t0 :: r0 := (List.suffix_cons t r).trans hs
        simp only
        split
        · have hs2 := behind_suf r
          have hl2 := span_len r
          cases hbr : behind r with
          | nil => simp [LG]
          | cons u r2 =>
            rw [hbr] at hs2 hl2
            simp only
            split
            · cases r2 with
              | nil => simp [LG]
              | cons v r3 =>
                simp only
                split
                · refine ⟨((List.suffix_cons v r3).trans (List.suffix_cons u _)).trans (hs2.trans hr), ?_⟩
                  simp [leaves] at hb hl hl2 ⊢
                  omega
                · simp [LG]
            · simp [LG]
        · split
          · refine ⟨hr, ?_⟩
            simp at hb ⊢; omega
          · split
            · split
              · simp [LG]
              · have := ihL r (deep + 1) t.pos (by simp at hb; omega)
                cases hq : pL (deep + 1) t.pos r with
                | err p e => rw [hq] at this; exact this
                | ok k r2 =>
                  rw [hq] at this
                  refine ⟨this.1.trans hr, ?_⟩
                  have h2 := this.1.length_le
                  simp at hb ⊢; omega
            · simp [LG]
    refine ⟨fun ts deep op h => ?_, hS⟩
    cases ts with
    | nil => rw [pL_nil]; split <;> simp [LG]
    | cons t ts =>
      rw [pL_cons]
      split
      · split
        · exact ⟨List.suffix_cons t ts, by simp⟩
        · simp [LG]
      · split
        · rename_i h1
          have hs := hS t ts deep h h1
          cases hp : pS deep (t :: ts) with
          | err p e => rw [hp] at hs; exact hs
          | ok a r =>
            rw [hp] at hs
            have hlt := pS_left deep (t :: ts) ⟨t, ts, rfl, h1⟩ hp
            have hr := ihL r deep op (by simp at hlt h; omega)
            simp only
            cases hq : pL deep op r with
            | err p e => rw [hq] at hr; exact hr
            | ok b r2 =>
              rw [hq] at hr
              refine ⟨hr.1.trans hs.1, ?_⟩
              have := hr.2
              have := hs.2
              simp only [List.length_append]
              omega
        · simp [LG]
theorem pL_good (ts : List Tok) (deep : Nat) (op : Pos) : LG (ts := ts) (pL deep op ts) := (pLS ts.length).1 ts deep op (Nat.le_refl _)
theorem pS_good (t0 : Tok) (r0 : List Tok) (deep : Nat) (h : t0.kind = 1) : LG (ts := t0 :: r0) (pS deep (t0 :: r0)) := (pLS (r0.length + 1)).2 t0 r0 deep (Nat.le_refl _) h
end Tr
end
section
/- The walks of tree.Parse. -/
namespace Go.Vw.Wm
open Go Go.RowKit Go.Abs Go.Vw Lx Tr
set_option maxRecDepth 20000
set_option linter.unusedSimpArgs false
set_option linter.unusedVariables false
variable {P : Program} {K : Knobs} {X : ExtV}

/-- How parsing ends. -/
def Fin (x : PR (List Node)) (r : Rd) (a : List Node) (r' : Rd) : Prop := match x with
  | .ok b rest => a = b ∧ r' = { r with toks := rest }
  | .err p e => r'.err = e ∧ r'.pos = p ∧ r'.toks.length ≤ r.toks.length ∧ a.length ≤ r.toks.length
def kinds (l : List Tok) : Prop := ∀ t ∈ l, t.kind ≠ 0
def S_stmtN (P : Program) (K : Knobs) (X : ExtV) (f N : Nat) : Prop := ∀ (fl : Nat) (σ : St) (x : Nat) (r : Rd) (deep : Nat) (t0 : Tok) (r0 : List Tok), fl ≤ x → σ.pin ≤ σ.size → σ.get x = some (.cells r.enc) → r.err = 0 → r.toks = t0 :: r0 → t0.kind = 1 → kinds r.toks → deep ≤ 32 → r.toks.length ≤ N → r.toks.length ≤ 16777216 →
    ∃ bb a r', Fin (pS deep r.toks) r a r' ∧ Big P K X (.call fl f [.ptr x 0, .int .i64 deep] σ (.vec bb (encNs a)) (σ.put x (.cells r'.enc)))
def S_listN (P : Program) (K : Knobs) (X : ExtV) (f N : Nat) : Prop := ∀ (fl : Nat) (σ : St) (x : Nat) (r : Rd) (deep : Nat) (op : Pos), fl ≤ x → σ.pin ≤ σ.size → σ.get x = some (.cells r.enc) → r.err = 0 → kinds r.toks → deep ≤ 32 → r.toks.length ≤ N → r.toks.length ≤ 16777216 →
    ∃ a r', Fin (pL deep op r.toks) r a r' ∧ Big P K X (.call fl f [.ptr x 0, .int .i64 deep, .agg (encP op)] σ (.vec false (encNs a)) (σ.put x (.cells r'.enc)))

section
variable {wm : TypeId → Bool} {n fl : Nat} {Q : Ex → VEnv → St → Prop} {k : List Lf} {fn ff fo fs N : Nat} {σ0 : St} {x : Nat} {c0 : VObj} {deep : Nat} {op : Pos} {D : List Node → Rd → Prop}
theorem list_err (hfl : fl ≤ x) (hp : σ0.pin ≤ σ0.size) (hx : σ0.get x = some c0)
    (hE : ∀ ρ' a r', D a r' → ρ' 7 = .vec true (encNs a) → contM P K X wm n fl true Q k (.exit 0) ρ' ((σ0.put x (.cells r'.enc)).push (.cells (encP op))))
    {r : Rd} {out : List Node} {ρ : VEnv} (he : r.err ≠ 0) (h0 : ρ 0 = .ptr x 0) (h7 : ρ 7 = .vec true (encNs out)) (hD : D out r) :
    loopM P K X wm n fl true Q (l_tree_reader_list_0 fn ff fo fs) k ρ ((σ0.put x (.cells r.enc)).push (.cells (encP op))) := by
  have hxs := get_lt hx
  refine loopM_at (l_tree_reader_list_0.eq_1 _ _ _ _) ?_
  simp [h0, near hfl hxs, pinned hp, hx, Rd.enc, he]
  refine contM_to (hE _ out r hD ?_) ?_ <;> simp [h7, encNs_map, Rd.enc]
theorem list_nil (hfl : fl ≤ x) (hp : σ0.pin ≤ σ0.size) (hx : σ0.get x = some c0) (hn : S_next P K X fn) (hf : S_fail P K X ff)
    (hR : ∀ ρ' a r', D a r' → ρ' 6 = .vec false (encNs a) → contM P K X wm n fl true Q k .ret ρ' ((σ0.put x (.cells r'.enc)).push (.cells (encP op))))
    {p : Pos} {out : List Node} {ρ : VEnv} (h0 : ρ 0 = .ptr x 0) (h1 : ρ 1 = .int .i64 deep) (h5 : ρ 5 = .ptr σ0.size 0) (h7 : ρ 7 = .vec true (encNs out))
    (hD : ∀ a r', Fin (pL deep op []) ⟨[], 0, p⟩ a r' → D (out ++ a) r') :
    loopM P K X wm n fl true Q (l_tree_reader_list_0 fn ff fo fs) k ρ ((σ0.put x (.cells (⟨[], 0, p⟩ : Rd).enc)).push (.cells (encP op))) := by
  have hxs := get_lt hx
  refine loopM_at (l_tree_reader_list_0.eq_1 _ _ _ _) ?_
  simp [h0, near hfl hxs, pinned hp, hx, Rd.enc]
  refine callM_of (hn _ _ _ ⟨[], 0, p⟩ (by simp [near hfl hxs]) (by simp [near hfl hxs, hx, Rd.enc])) ?_
  by_cases hz : 0 < deep
  · simp [h1, hz, h0, h5]
    refine callM_of (hf _ _ _ ⟨[], 0, p⟩ 71 op hfl (by simp [pinned hp]) (by simp [near hfl hxs, hx, Rd.enc])) ?_
    simp [h7, near hfl hxs]
    refine contM_to (hR _ (out ++ []) ⟨[], 71, op⟩ (hD [] _ ?_) ?_) ?_
    · rw [pL_nil, if_pos hz]
      simp [Fin]
    · simp
    · simp [Rd.fail, Rd.enc]
  · simp [h1, hz, h0, h5, h7]
    refine contM_to (hR _ (out ++ []) ⟨[], 0, p⟩ (hD [] _ ?_) ?_) ?_
    · rw [pL_nil, if_neg hz]
      simp [Fin]
    · simp
    · simp [Rd.fail, Rd.enc]
theorem list_loop (hfl : fl ≤ x) (hp : σ0.pin ≤ σ0.size) (hx : σ0.get x = some c0) (hn : S_next P K X fn) (hf : S_fail P K X ff) (ho : S_off P K X fo) (hs : S_stmtN P K X fs N) (hd : deep ≤ 32)
    (hE : ∀ ρ' a r', D a r' → ρ' 7 = .vec true (encNs a) → contM P K X wm n fl true Q k (.exit 0) ρ' ((σ0.put x (.cells r'.enc)).push (.cells (encP op))))
    (hR : ∀ ρ' a r', D a r' → ρ' 6 = .vec false (encNs a) → contM P K X wm n fl true Q k .ret ρ' ((σ0.put x (.cells r'.enc)).push (.cells (encP op)))) :
    ∀ (m : Nat) (r : Rd) (out : List Node) (ρ : VEnv), r.toks.length ≤ m → r.toks.length ≤ N → r.err = 0 → kinds r.toks → out.length + r.toks.length ≤ 16777216 → ρ 0 = .ptr x 0 → ρ 1 = .int .i64 deep → ρ 5 = .ptr σ0.size 0 → ρ 7 = .vec true (encNs out) →
      (∀ a r', Fin (pL deep op r.toks) r a r' → D (out ++ a) r') →
      loopM P K X wm n fl true Q (l_tree_reader_list_0 fn ff fo fs) k ρ ((σ0.put x (.cells r.enc)).push (.cells (encP op))) := by
  have hxs := get_lt hx
  intro m
  induction m with
  | zero =>
    intro r out ρ hm hN he hk hb h0 h1 h5 h7 hD
    obtain ⟨toks, e, p⟩ := r
    simp only at he
    subst he
    have : toks = [] := List.eq_nil_of_length_eq_zero (Nat.le_zero.1 hm)
    subst this
    exact list_nil hfl hp hx hn hf hR h0 h1 h5 h7 hD
  | succ m ih =>
    intro r out ρ hm hN he hk hb h0 h1 h5 h7 hD
    obtain ⟨toks, e, p⟩ := r
    simp only at he
    subst he
    cases toks with
    | nil => exact list_nil hfl hp hx hn hf hR h0 h1 h5 h7 hD
    | cons t ts =>
      have ht0 : t.kind ≠ 0 := hk t (by simp)
      have hz0 : ¬ ((t.kind : Int) = 0) := by omega
      refine loopM_at (l_tree_reader_list_0.eq_1 _ _ _ _) ?_
      simp [h0, near hfl hxs, pinned hp, hx, Rd.enc]
      refine callM_of (hn _ _ _ ⟨t :: ts, 0, p⟩ (by simp [near hfl hxs]) (by simp [near hfl hxs, hx, Rd.enc])) ?_
      simp only [] at hD
      by_cases h3 : t.kind = 3
      · by_cases hz : 0 < deep
        · simp [h1, h3, hz, h0]
          refine callM_of (ho _ _ _ ⟨t :: ts, 0, p⟩ t ts hfl (by simp [pinned hp]) (by simp [near hfl hxs, hx, Rd.enc]) rfl) ?_
          simp [h7, near hfl hxs]
          refine contM_to (hR _ (out ++ []) ⟨ts, 0, p⟩ (hD [] _ ?_) ?_) ?_
          · rw [pL_cons, if_pos h3, if_pos hz]
            simp [Fin]
          · simp
          · simp [Rd.enc]
        · simp [h1, h3, hz, h0, near hfl hxs, hx, encToks, encT]
          refine callM_of (hf _ _ _ ⟨t :: ts, 0, p⟩ 130 t.pos hfl (by simp [pinned hp]) (by simp [near hfl hxs, hx, Rd.enc, encToks, encT, h3])) ?_
          simp [near hfl hxs, pinned hp]
          refine loopM_to (list_err hfl hp hx hE (r := ⟨t :: ts, 130, t.pos⟩) (out := out ++ []) (by simp) ?_ ?_ (hD [] _ ?_)) ?_
          · simp [h0, near hfl hxs]
          · simp [h7, encNs_map]
          · rw [pL_cons, if_pos h3, if_neg hz]
            simp [Fin]
          · simp [Rd.fail, Rd.enc]
      · have h3' : ¬ ((t.kind : Int) = 3) := by omega
        by_cases h1' : t.kind = 1
        · simp [h1, h1', h0, h7]
          obtain ⟨bb, a, r', hfin, hbig⟩ := hs fl ((σ0.put x (.cells (⟨t :: ts, 0, p⟩ : Rd).enc)).push (.cells (encP op))) x ⟨t :: ts, 0, p⟩ deep t ts hfl (by simp [pinned hp]) (by simp [near hfl hxs, hx]) rfl rfl h1' hk hd hN (by simp at hb ⊢; omega)
          refine callM_of hbig ?_
          have hlg := pS_good t ts deep h1'
          have hal : out.length + a.length ≤ 33554432 := by
            simp only [Fin] at hfin
            cases hps : pS deep (t :: ts) with
            | ok b rest => rw [hps] at hfin hlg; have := hlg.2; simp at hb this hfin; rw [hfin.1]; omega
            | err pp ee => rw [hps] at hfin; simp at hb hfin; omega
          simp [near hfl hxs, pinned hp, encNs_map, hal]
          by_cases he' : r'.err = 0
          · have hps : ∃ b rest, pS deep (t :: ts) = .ok b rest := by
              cases hps : pS deep (t :: ts) with
              | ok b rest => exact ⟨_, _, rfl⟩
              | err pp ee => rw [hps] at hlg; simp only [Fin, hps] at hfin; exact absurd (hfin.1.symm.trans he') hlg
            obtain ⟨b, rest, hps⟩ := hps
            simp only [Fin, hps] at hfin
            obtain ⟨rfl, rfl⟩ := hfin
            rw [hps] at hlg
            have hsl := pS_left deep (t :: ts) ⟨t, ts, rfl, h1'⟩ hps
            refine loopM_to (ih ⟨rest, 0, p⟩ (out ++ a) _ (by simp at hm hsl ⊢; omega) (by simp at hN hsl ⊢; omega) rfl (fun u hu => hk u (hlg.1.subset hu)) (by have := hlg.2; simp at hb this ⊢; omega) ?_ ?_ ?_ ?_ ?_) ?_
            · simp [h0, near hfl hxs]
            · simp [h1]
            · simp [h5]
            · simp [encNs_map]
            · intro b r' hr'
              rw [List.append_assoc]
              refine hD _ _ ?_
              rw [pL_cons, if_neg h3, if_pos h1', hps]
              simp only
              cases hq : pL deep op rest with
              | ok b2 r2 => rw [hq] at hr'; simp only [Fin] at hr' ⊢; exact ⟨by rw [hr'.1], hr'.2⟩
              | err pp ee =>
                rw [hq] at hr'
                simp only [Fin] at hr' ⊢
                have := hlg.2
                refine ⟨hr'.1, hr'.2.1, ?_, ?_⟩
                · simp at hr' this ⊢; omega
                · simp at hr' this ⊢; omega
            · simp [Rd.enc]
          · refine loopM_to (list_err hfl hp hx hE (r := r') (out := out ++ a) he' ?_ ?_ (hD a r' ?_)) ?_
            · simp [h0, near hfl hxs]
            · simp [encNs_map]
            · rw [pL_cons, if_neg h3, if_pos h1']
              cases hps : pS deep (t :: ts) with
              | ok b rest => simp only [Fin, hps] at hfin; exact absurd (by rw [hfin.2]) he'
              | err pp ee => rw [hps] at hfin; exact hfin
            · simp
        · have h1'' : ¬ ((t.kind : Int) = 1) := by omega
          simp [h1, h3, h3', h1', h1'', ht0, h0, near hfl hxs, hx, encToks, encT]
          refine callM_of (hf _ _ _ ⟨t :: ts, 0, p⟩ 130 t.pos hfl (by simp [pinned hp]) (by simp [near hfl hxs, hx, Rd.enc, encToks, encT])) ?_
          simp [near hfl hxs, pinned hp]
          refine loopM_to (list_err hfl hp hx hE (r := ⟨t :: ts, 130, t.pos⟩) (out := out ++ []) (by simp) ?_ ?_ (hD [] _ ?_)) ?_
          · simp [h0, near hfl hxs]
          · simp [h7, encNs_map]
          · rw [pL_cons, if_neg h3, if_neg h1']
            simp [Fin]
          · simp [Rd.fail, Rd.enc]
end
theorem list_okN {f fn ff fo fs N : Nat} (hn : S_next P K X fn) (hf : S_fail P K X ff) (ho : S_off P K X fo) (hs : S_stmtN P K X fs N) (H : Has P K f false (c_tree_reader_list fn ff fo fs)) : S_listN P K X f N := by
  intro fl σ x r deep op hfl hp hx he hk hd hN hb
  have hxs := get_lt hx
  have h : ∃ v σ', (∃ a r', Fin (pL deep op r.toks) r a r' ∧ v = .vec false (encNs a) ∧ σ' = σ.put x (.cells r'.enc)) ∧ Big P K X (.call fl f [.ptr x 0, .int .i64 deep, .agg (encP op)] σ v σ') := by
    refine H_callE H (Nat.le_of_ble_eq_true rfl) ?_
    simp [c_tree_reader_list, encP]
    refine loopM_to (list_loop (op := op) (D := fun a r' => Fin (pL deep op r.toks) r a r') hfl hp hx hn hf ho hs hd ?_ ?_ r.toks.length r [] _ (Nat.le_refl _) hN he hk (by simpa using hb) ?_ ?_ ?_ ?_ ?_) ?_
    · intro ρ' a r' h1 h7
      simp [h7, near hfl hxs, pinned hp, encNs_map, encP]
      exact ⟨a, r', h1, rfl, rfl⟩
    · intro ρ' a r' h1 h6
      simp [h6, near hfl hxs, pinned hp, encNs_map, encP]
      exact ⟨a, r', h1, rfl, rfl⟩
    · simp
    · simp
    · simp
    · simp [encNs]
    · simp
    · simp [put_get hx, encP]
  obtain ⟨v, σ', ⟨a, r', h1, rfl, rfl⟩, h2⟩ := h
  exact ⟨a, r', h1, h2⟩
end Go.Vw.Wm
end
section
/- The walk of a statement. -/
namespace Go.Vw.Wm
open Go Go.RowKit Go.Abs Go.Vw Lx Tr
set_option maxRecDepth 20000
set_option linter.unusedSimpArgs false
set_option linter.unusedVariables false
variable {P : Program} {K : Knobs} {X : ExtV}

def S_clone (P : Program) (K : Knobs) (X : ExtV) (f size : Nat) : Prop := ∀ (fl : Nat) (σ : St) (o : Bool) (els : List (List V)), fl ≤ σ.size → els.all (fun e => decide (e.length = size)) = true → els.length ≤ 33554432 →
    Big P K X (.call fl f [.vec o els] σ (.vec true els) σ)

theorem leaves_append (ws a b : List Tok) : leaves ws (a ++ b) = leaves ws a ++ leaves ws b := List.map_append
section
variable {wm : TypeId → Bool} {n fl : Nat} {Q : Ex → VEnv → St → Prop} {k : List Lf} {fc fp : Nat} {σ : St} {a6 a8 a5 x : Nat} {deep : Int} {ws inner : List Tok}
theorem leaves_loop (hc : S_clone P K X fc 1) (hcp : S_clone P K X fp 2) (hfl : fl ≤ σ.size) (hp : σ.pin ≤ σ.size) (h6 : σ.get a6 = some (.cells (encN (leafOf ws)))) (h8 : σ.get a8 = some (.cells (encN (leafOf inner)))) (hx : x < σ.size) (h5 : a5 < σ.size)
    (hb : ws.length + inner.length ≤ 16777216)
    (hE : ∀ ρ', ρ' 0 = .ptr x 0 → ρ' 1 = .int .i64 deep → ρ' 5 = .ptr a5 0 → ρ' 6 = .ptr a6 0 → ρ' 7 = .vec true (encNs (leaves ws inner)) → contM P K X wm n fl true Q k (.exit 0) ρ' σ) :
    ∀ (rest done : List Tok) (ρ : VEnv), inner = done ++ rest → ρ 0 = .ptr x 0 → ρ 1 = .int .i64 deep → ρ 5 = .ptr a5 0 → ρ 6 = .ptr a6 0 → ρ 8 = .ptr a8 0 → ρ 7 = .vec true (encNs (leaves ws done)) →
      ρ 29 = .vec false (inner.map fun t => wordCell t.text) → ρ 30 = .int .i64 inner.length → ρ 31 = .int .i64 done.length →
      loopM P K X wm n fl true Q (l_tree_reader_statement_0 fc fp) k ρ σ := by
  have ha6 := get_lt h6
  have ha8 := get_lt h8
  intro rest
  induction rest with
  | nil =>
    intro done ρ hi r0 r1 r5 r6 r8 r7 r29 r30 r31
    rw [List.append_nil] at hi
    subst hi
    refine loopM_at (l_tree_reader_statement_0.eq_1 _ _) ?_
    simp [r30, r31, hp]
    refine hE _ ?_ ?_ ?_ ?_ ?_ <;> simp [r0, r1, r5, r6, r7, hx, h5, ha6, encNs_map]
  | cons t rest ih =>
    intro done ρ hi r0 r1 r5 r6 r8 r7 r29 r30 r31
    have hlen : done.length < inner.length := by rw [hi]; simp
    have hget : inner[done.length]? = some t := by rw [hi]; simp
    have hlt : (done.length : Int) < (inner.length : Int) := by omega
    refine loopM_at (l_tree_reader_statement_0.eq_1 _ _) ?_
    have hgi : inner[done.length] = t := by
      rw [List.getElem?_eq_getElem hlen] at hget
      exact Option.some.inj hget
    have hl0 : done.length ≤ 16777216 := by omega
    have hl1 : (leaves ws done).length + 1 ≤ 33554432 := by simp [leaves]; omega
    have hl2 : ws.length + 1 ≤ 33554432 := by omega
    simp [r30, r31, r29, r7, r6, r8, r1, hp, hlen, hlt, hgi, h6, h8, leafOf, encN, wordCell]
    refine callM_of (hc _ _ _ _ hfl (by simp [wordCell]) (by simp; omega)) ?_
    simp [r6, h6, hp, hl2, wordCell, leafOf, encN]
    refine callM_of (hcp _ _ _ _ hfl (by simp) (by simp; omega)) ?_
    have hw : IntKind.i64.wrap ((done.length : Int) + 1) = (done.length : Int) + 1 := wrap_i64 (by omega) (by omega)
    simp [r8, h8, hp, hl2, wordCell, leafOf, encN, hlen, hgi, encP, encNs_map, hl1, r31, hw]
    refine ih (done ++ [t]) _ (by rw [hi]; simp) ?_ ?_ ?_ ?_ ?_ ?_ ?_ ?_ ?_
    all_goals simp (maxDischargeDepth := 6) [r0, r1, r5, r6, r8, r29, r30, hx, h5, ha6, ha8, encNs_map, leaves_append, leaves, leafOf, encN, wordCell, encP, Function.comp_def]
end

theorem stmt_okN {f fw fn fo fc fp ff fli N : Nat} (hw : S_words P K X fw) (hn : S_next P K X fn) (ho : S_off P K X fo) (hc : S_clone P K X fc 1) (hcp : S_clone P K X fp 2) (hf : S_fail P K X ff) (hl : S_listN P K X fli N) (H : Has P K f false (c_tree_reader_statement fw fn fo fc fp ff fli)) : S_stmtN P K X f (N + 1) := by
  intro fl σ x r deep t0 r0 hfl hp hx he hr h0 hk hd hN hb
  have hxs := get_lt hx
  obtain ⟨toks, e, p⟩ := r
  simp only at he hr
  subst he hr
  have h : ∀ (R : V → St → Prop), (∀ bb a r', Fin (pS deep (t0 :: r0)) ⟨t0 :: r0, 0, p⟩ a r' → R (.vec bb (encNs a)) (σ.put x (.cells r'.enc))) → ∃ v σ', R v σ' ∧ Big P K X (.call fl f [.ptr x 0, .int .i64 deep] σ v σ') := by
    intro R hR
    refine H_callE H (Nat.le_of_ble_eq_true rfl) ?_
    rw [pS_cons deep t0 r0 h0] at hR
    have hsuf := behind_suf (t0 :: r0)
    have hlen := span_len (t0 :: r0)
    have hblt := behind_lt (ts := r0) h0
    simp [c_tree_reader_statement, hx, Rd.enc, encToks, encT, encP, near hfl hxs]
    refine callM_of (hw _ _ _ ⟨t0 :: r0, 0, p⟩ hfl (by simp [pinned hp]) (by simp [near hfl hxs, hx, Rd.enc, encToks, encT, encP]) (by simpa using hb)) ?_
    simp [Rd.words, leafOf, encN, encNs, near hfl hxs]
    refine callM_of (hn _ _ _ (Rd.past ⟨t0 :: r0, 0, p⟩) (by simp [near hfl hxs]) (by simp [near hfl hxs, hx])) ?_
    simp [Rd.past]
    cases hbe : behind (t0 :: r0) with
    | nil =>
      rw [hbe] at hR
      simp [near hfl hxs]
      refine callM_of (hn _ _ _ ⟨[], 0, p⟩ (by simp [near hfl hxs]) (by simp [near hfl hxs, hx])) ?_
      simp [near hfl hxs]
      refine callM_of (hf _ _ _ ⟨[], 0, p⟩ 71 t0.pos hfl (by simp [pinned hp]) (by simp [near hfl hxs, hx])) ?_
      simp [near hfl hxs, pinned hp]
      simpa [Rd.fail, encNs] using hR true [] ⟨[], 71, t0.pos⟩ (by simp [Fin])
    | cons t r =>
      rw [hbe] at hR hsuf hlen hblt
      have htk : t.kind ≠ 0 := hk t (hsuf.subset (by simp))
      simp only at hR
      by_cases h5 : t.kind = 5
      · rw [if_pos h5] at hR
        simp [h5, near hfl hxs]
        refine callM_of (ho _ _ _ ⟨t :: r, 0, p⟩ t r hfl (by simp [pinned hp]) (by simp [near hfl hxs, hx]) rfl) ?_
        simp [near hfl hxs]
        refine callM_of (hw _ _ _ ⟨r, 0, p⟩ hfl (by simp [pinned hp]) (by simp [near hfl hxs, hx]) (by simp at hblt hb ⊢; omega)) ?_
        simp [near hfl hxs, Rd.words, Rd.past, leafOf, encN, encNs]
        have hlen2 := span_len r
        have hsuf2 := behind_suf r
        have hblt2 := behind_le r
        refine leaves_loop (a6 := σ.size + 1) (a8 := σ.size + 1 + 1) (a5 := σ.size) (x := x) (deep := deep) (ws := wordsOf (t0 :: r0)) (inner := wordsOf r) hc hcp (by simp [near hfl hxs]) (by simp [pinned hp]) (by simp [leafOf, encN, encNs]) (by simp [leafOf, encN, encNs]) (by simp [near hfl hxs]) (by simp) (by simp at hlen hb ⊢; omega) ?_ (wordsOf r) [] _ rfl ?_ ?_ ?_ ?_ ?_ ?_ ?_ ?_ ?_
        · intro ρ' r0' r1' r5' r6' r7'
          simp [r0', r1', r5', r6', r7', near hfl hxs]
          cases hbr : behind r with
          | nil =>
            rw [hbr] at hR
            refine callM_of (hn _ _ _ ⟨[], 0, p⟩ (by simp [near hfl hxs]) (by simp [near hfl hxs, hx])) ?_
            simp [near hfl hxs, r0']
            refine callM_of (hn _ _ _ ⟨[], 0, p⟩ (by simp [near hfl hxs]) (by simp [near hfl hxs, hx])) ?_
            simp [near hfl hxs, r0']
            refine callM_of (hn _ _ _ ⟨[], 0, p⟩ (by simp [near hfl hxs]) (by simp [near hfl hxs, hx])) ?_
            simp [near hfl hxs, r0', r5']
            refine callM_of (hf _ _ _ ⟨[], 0, p⟩ 71 t0.pos hfl (by simp [pinned hp]) (by simp [near hfl hxs, hx])) ?_
            simp [near hfl hxs, pinned hp]
            simpa [Rd.fail, encNs] using hR true [] ⟨[], 71, t0.pos⟩ (by simp [Fin])
          | cons u r2 =>
            rw [hbr] at hR hsuf2 hlen2 hblt2
            have huk : u.kind ≠ 0 := hk u (hsuf.subset (by simp; exact .inr (hsuf2.subset (by simp))))
            have huk' : ¬ ((u.kind : Int) = 0) := by omega
            simp only at hR
            refine callM_of (hn _ _ _ ⟨u :: r2, 0, p⟩ (by simp [near hfl hxs]) (by simp [near hfl hxs, hx])) ?_
            by_cases h6 : u.kind = 6 ∧ wordsOf r ≠ []
            · rw [if_pos h6] at hR
              have hne : 0 < (leaves (wordsOf (t0 :: r0)) (wordsOf r)).length := by
                simp [leaves]
                exact List.length_pos_iff.2 h6.2
              simp [near hfl hxs, r0', r7', h6.1, encNs_map, hne]
              refine callM_of (ho _ _ _ ⟨u :: r2, 0, p⟩ u r2 hfl (by simp [pinned hp]) (by simp [near hfl hxs, hx]) rfl) ?_
              simp [near hfl hxs, r0']
              refine callM_of (hn _ _ _ ⟨r2, 0, p⟩ (by simp [near hfl hxs]) (by simp [near hfl hxs, hx])) ?_
              cases hr2 : r2 with
              | nil =>
                rw [hr2] at hR
                simp [near hfl hxs, r0', r5']
                refine callM_of (hf _ _ _ ⟨[], 0, p⟩ 71 t0.pos hfl (by simp [pinned hp]) (by simp [near hfl hxs, hx])) ?_
                simp [near hfl hxs, pinned hp]
                simpa [Rd.fail, encNs] using hR true [] ⟨[], 71, t0.pos⟩ (by simp [Fin])
              | cons v r3 =>
                rw [hr2] at hR hsuf2 hlen2 hblt2
                have hvk : v.kind ≠ 0 := hk v (hsuf.subset (by simp; exact .inr (hsuf2.subset (by simp))))
                have hvk' : ¬ ((v.kind : Int) = 0) := by omega
                simp only at hR
                simp [near hfl hxs, hvk, hvk', r0']
                refine callM_of (hn _ _ _ ⟨v :: r3, 0, p⟩ (by simp [near hfl hxs]) (by simp [near hfl hxs, hx])) ?_
                by_cases h4 : v.kind = 4
                · rw [if_pos h4] at hR
                  simp [near hfl hxs, r0', h4]
                  refine callM_of (ho _ _ _ ⟨v :: r3, 0, p⟩ v r3 hfl (by simp [pinned hp]) (by simp [near hfl hxs, hx]) rfl) ?_
                  simp [near hfl hxs, pinned hp, r7', encNs_map, hne]
                  simpa [encNs_map] using hR false (leaves (wordsOf (t0 :: r0)) (wordsOf r)) ⟨r3, 0, p⟩ (by simp [Fin])
                · rw [if_neg h4] at hR
                  have h4' : ¬ ((v.kind : Int) = 4) := by omega
                  have hne' : ¬ (leaves (wordsOf (t0 :: r0)) (wordsOf r)) = [] := fun e => by rw [e] at hne; simp at hne
                  simp [near hfl hxs, r0', h4, h4']
                  have hfin : R (.vec true []) (σ.put x (.cells (⟨v :: r3, 130, v.pos⟩ : Rd).enc)) := by
                    simpa [encNs] using hR true [] ⟨v :: r3, 130, v.pos⟩ (by simp [Fin] at hblt hblt2 ⊢; omega)
                  by_cases h2 : v.kind = 2
                  · refine callM_of (hn _ _ _ ⟨v :: r3, 0, p⟩ (by simp [near hfl hxs]) (by simp [near hfl hxs, hx])) ?_
                    simp [near hfl hxs, r0', h2, r7', encNs_map, hne']
                    refine callM_of (hn _ _ _ ⟨v :: r3, 0, p⟩ (by simp [near hfl hxs]) (by simp [near hfl hxs, hx])) ?_
                    simp [near hfl hxs, r0', h2, r7', encNs_map, hne', hx, Rd.enc, encToks, encT]
                    refine callM_of (hf _ _ _ ⟨v :: r3, 0, p⟩ 130 v.pos hfl (by simp [pinned hp]) (by simp [near hfl hxs, hx, Rd.enc, encToks, encT, h2])) ?_
                    simp [near hfl hxs, pinned hp, Rd.fail]
                    exact hfin
                  · have h2' : ¬ ((v.kind : Int) = 2) := by omega
                    refine callM_of (hn _ _ _ ⟨v :: r3, 0, p⟩ (by simp [near hfl hxs]) (by simp [near hfl hxs, hx])) ?_
                    simp [near hfl hxs, r0', h2, h2', r7', encNs_map, hne']
                    refine callM_of (hn _ _ _ ⟨v :: r3, 0, p⟩ (by simp [near hfl hxs]) (by simp [near hfl hxs, hx])) ?_
                    simp [near hfl hxs, r0', h2, h2', r7', encNs_map, hne', hx, Rd.enc, encToks, encT]
                    refine callM_of (hf _ _ _ ⟨v :: r3, 0, p⟩ 130 v.pos hfl (by simp [pinned hp]) (by simp [near hfl hxs, hx, Rd.enc, encToks, encT, h2])) ?_
                    simp [near hfl hxs, pinned hp, Rd.fail]
                    exact hfin
            · rw [if_neg h6] at hR
              have hfin : R (.vec true []) (σ.put x (.cells (⟨u :: r2, 130, u.pos⟩ : Rd).enc)) := by
                simpa [encNs] using hR true [] ⟨u :: r2, 130, u.pos⟩ (by simp [Fin] at hblt hblt2 ⊢; omega)
              by_cases hu : u.kind = 6
              · have hw0 : wordsOf r = [] := Classical.byContradiction fun e => h6 ⟨hu, e⟩
                have hl0 : leaves (wordsOf (t0 :: r0)) (wordsOf r) = [] := by rw [hw0]; rfl
                rw [hl0] at r7'
                simp [near hfl hxs, r0', r7', hu, encNs]
                refine callM_of (hn _ _ _ ⟨u :: r2, 0, p⟩ (by simp [near hfl hxs]) (by simp [near hfl hxs, hx])) ?_
                simp [near hfl hxs, r0', hu, hx, Rd.enc, encToks, encT]
                refine callM_of (hf _ _ _ ⟨u :: r2, 0, p⟩ 130 u.pos hfl (by simp [pinned hp]) (by simp [near hfl hxs, hx, Rd.enc, encToks, encT, hu])) ?_
                simp [near hfl hxs, pinned hp, Rd.fail]
                exact hfin
              · have hu' : ¬ ((u.kind : Int) = 6) := by omega
                simp [near hfl hxs, r0', hu, hu']
                refine callM_of (hn _ _ _ ⟨u :: r2, 0, p⟩ (by simp [near hfl hxs]) (by simp [near hfl hxs, hx])) ?_
                simp [near hfl hxs, r0', huk, huk', hx, Rd.enc, encToks, encT]
                refine callM_of (hf _ _ _ ⟨u :: r2, 0, p⟩ 130 u.pos hfl (by simp [pinned hp]) (by simp [near hfl hxs, hx, Rd.enc, encToks, encT])) ?_
                simp [near hfl hxs, pinned hp, Rd.fail]
                exact hfin
        all_goals simp [leaves, encNs, Function.comp_def]
      · rw [if_neg h5] at hR
        have h5' : ¬ ((t.kind : Int) = 5) := by omega
        simp [h5, h5', near hfl hxs]
        refine callM_of (hn _ _ _ ⟨t :: r, 0, p⟩ (by simp [near hfl hxs]) (by simp [near hfl hxs, hx])) ?_
        simp [htk, near hfl hxs]
        refine callM_of (hn _ _ _ ⟨t :: r, 0, p⟩ (by simp [near hfl hxs]) (by simp [near hfl hxs, hx])) ?_
        by_cases h4 : t.kind = 4
        · rw [if_pos h4] at hR
          simp [h4, near hfl hxs]
          refine callM_of (ho _ _ _ ⟨t :: r, 0, p⟩ t r hfl (by simp [pinned hp]) (by simp [near hfl hxs, hx]) rfl) ?_
          simp [near hfl hxs, pinned hp]
          simpa [encNs, encN, leafOf, Function.comp_def] using hR true [leafOf (wordsOf (t0 :: r0))] ⟨r, 0, p⟩ (by simp [Fin])
        · rw [if_neg h4] at hR
          have h4' : ¬ ((t.kind : Int) = 4) := by omega
          simp [h4, h4', near hfl hxs]
          refine callM_of (hn _ _ _ ⟨t :: r, 0, p⟩ (by simp [near hfl hxs]) (by simp [near hfl hxs, hx])) ?_
          by_cases h2 : t.kind = 2
          · rw [if_pos h2] at hR
            by_cases h32 : deep = 32
            · rw [if_pos h32] at hR
              simp [h2, h32, near hfl hxs, hx, Rd.enc, encToks, encT]
              refine callM_of (hf _ _ _ ⟨t :: r, 0, p⟩ 140 t.pos hfl (by simp [pinned hp]) (by simp [near hfl hxs, hx, Rd.enc, encToks, encT, h2])) ?_
              simp [near hfl hxs, pinned hp]
              simpa [Rd.fail, encNs] using hR true [] ⟨t :: r, 140, t.pos⟩ (by simp [Fin] at hblt ⊢; omega)
            · rw [if_neg h32] at hR
              have h32' : ¬ ((deep : Int) = 32) := by omega
              have hwr : IntKind.i64.wrap ((deep : Int) + 1) = ((deep + 1 : Nat) : Int) := wrap_i64 (by omega) (by omega)
              simp [h2, h32, h32', near hfl hxs]
              refine callM_of (hn _ _ _ ⟨t :: r, 0, p⟩ (by simp [near hfl hxs]) (by simp [near hfl hxs, hx])) ?_
              simp [h2, near hfl hxs]
              refine callM_of (ho _ _ _ ⟨t :: r, 0, p⟩ t r hfl (by simp [pinned hp]) (by simp [near hfl hxs, hx]) rfl) ?_
              simp [near hfl hxs, encT, hwr, encP]
              refine callM_ex2 (hl _ _ _ ⟨r, 0, p⟩ (deep + 1) t.pos hfl (by simp [pinned hp]) (by simp [near hfl hxs, hx]) rfl (fun u hu => hk u (hsuf.subset (by simp at hu ⊢; exact .inr hu))) (by omega) (by simp at hblt hN ⊢; omega) (by simp at hblt hb ⊢; omega)) ?_
              intro a r' hfin
              simp [near hfl hxs, pinned hp]
              cases hq : pL (deep + 1) t.pos r with
              | ok b rest =>
                rw [hq] at hR hfin
                simp only [Fin] at hfin
                obtain ⟨rfl, rfl⟩ := hfin
                simpa [encNs, encN, Function.comp_def] using hR true [.mk ((wordsOf (t0 :: r0)).map (·.text)) ((wordsOf (t0 :: r0)).map (·.pos)) true a] ⟨rest, 0, p⟩ (by simp [Fin])
              | err pp ee =>
                rw [hq] at hR hfin
                simp only [Fin] at hfin
                simpa [encNs, encN, Function.comp_def] using hR true [.mk ((wordsOf (t0 :: r0)).map (·.text)) ((wordsOf (t0 :: r0)).map (·.pos)) true a] r' (by simp [Fin] at hblt hfin ⊢; exact ⟨hfin.1, hfin.2.1, by omega⟩)
          · rw [if_neg h2] at hR
            have h2' : ¬ ((t.kind : Int) = 2) := by omega
            simp [h2, h2', near hfl hxs]
            refine callM_of (hn _ _ _ ⟨t :: r, 0, p⟩ (by simp [near hfl hxs]) (by simp [near hfl hxs, hx])) ?_
            simp [h2, h2', near hfl hxs, hx, Rd.enc, encToks, encT]
            refine callM_of (hf _ _ _ ⟨t :: r, 0, p⟩ 130 t.pos hfl (by simp [pinned hp]) (by simp [near hfl hxs, hx, Rd.enc, encToks, encT])) ?_
            simp [near hfl hxs, pinned hp]
            simpa [Rd.fail, encNs] using hR true [] ⟨t :: r, 130, t.pos⟩ (by simp [Fin] at hblt ⊢; omega)
  obtain ⟨v, σ', ⟨bb, a, r', h1, rfl, rfl⟩, h2⟩ := h (fun v σ' => ∃ bb a r', Fin (pS deep (t0 :: r0)) ⟨t0 :: r0, 0, p⟩ a r' ∧ v = .vec bb (encNs a) ∧ σ' = σ.put x (.cells r'.enc)) (fun bb a r' h => ⟨bb, a, r', h, rfl, rfl⟩)
  exact ⟨bb, a, r', h1, h2⟩

theorem list_stmt {fw fn fo fc fp ff fli fst : Nat} (hw : S_words P K X fw) (hn : S_next P K X fn) (ho : S_off P K X fo) (hc : S_clone P K X fc 1) (hcp : S_clone P K X fp 2) (hf : S_fail P K X ff)
    (Hs : Has P K fst false (c_tree_reader_statement fw fn fo fc fp ff fli)) (Hl : Has P K fli false (c_tree_reader_list fn ff fo fst)) : ∀ N, S_listN P K X fli N ∧ S_stmtN P K X fst (N + 1)
  | 0 => by
    have h0 : S_stmtN P K X fst 0 := by
      intro fl σ x r deep t0 r0 _ _ _ _ hr _ _ _ hN
      rw [hr] at hN
      simp at hN
    have hl := list_okN hn hf ho h0 Hl
    exact ⟨hl, stmt_okN hw hn ho hc hcp hf hl Hs⟩
  | N + 1 => by
    have ih := list_stmt hw hn ho hc hcp hf Hs Hl N
    have hl := list_okN hn hf ho ih.2 Hl
    exact ⟨hl, stmt_okN hw hn ho hc hcp hf hl Hs⟩
def S_list (P : Program) (K : Knobs) (X : ExtV) (f : Nat) : Prop := ∀ N, S_listN P K X f N
end Go.Vw.Wm
end
section
/- The walk of tree.Parse. -/
namespace Go.Vw.Wm
open Go Go.RowKit Go.Abs Go.Vw Lx Tr
set_option maxRecDepth 20000
set_option linter.unusedSimpArgs false
set_option linter.unusedVariables false
variable {P : Program} {K : Knobs} {X : ExtV}

theorem tok1_kind {c : UInt8} {t : Str} {kd : Nat} {tx : Str} {k : Nat} (h : tok1 (c :: t) = .tok kd tx k) : kd ≠ 0 := by
  unfold tok1 at h
  simp only at h
  repeat' split at h
  all_goals first
    | (cases h; done)
    | (simp only [T1.tok.injEq] at h; obtain ⟨rfl, _, _⟩ := h; first | assumption | omega)
theorem toks_kinds : ∀ (m : Nat) (l : Str) (p : Pos) (ts : List Tok), l.length ≤ m → toks p l = .ok ts → kinds ts ∧ ts.length ≤ l.length
  | 0, l, p, ts, hm, h => by
    have : l = [] := List.eq_nil_of_length_eq_zero (Nat.le_zero.1 hm)
    subst this
    rw [toks_nil] at h
    cases h
    exact ⟨fun t ht => (by cases ht), (by simp)⟩
  | m + 1, [], p, ts, hm, h => by
    rw [toks_nil] at h
    cases h
    exact ⟨fun t ht => (by cases ht), (by simp)⟩
  | m + 1, c :: t, p, ts, hm, h => by
    rw [toks_cons] at h
    have htook := tok1_took c t
    cases h1 : tok1 (c :: t) with
    | bad => rw [h1] at h; cases h
    | skip j =>
      rw [h1] at h htook
      simp only [T1.took] at htook
      have := toks_kinds m _ _ ts (by simp at hm htook ⊢; omega) h
      exact ⟨this.1, by have := this.2; simp at this ⊢; omega⟩
    | tok kd tx j =>
      rw [h1] at h htook
      simp only [T1.took] at htook
      simp only at h
      cases hr : toks (advs p ((c :: t).take j)) ((c :: t).drop j) with
      | err q e => rw [hr] at h; cases h
      | ok r =>
        rw [hr] at h
        simp only [Res.push, Res.ok.injEq] at h
        subst h
        have := toks_kinds m _ _ r (by simp at hm htook ⊢; omega) hr
        refine ⟨fun u hu => ?_, by have := this.2; simp at this htook ⊢; omega⟩
        rcases List.mem_cons.1 hu with rfl | hu
        · exact tok1_kind h1
        · exact this.1 u hu
theorem toks_err : ∀ (m : Nat) (l : Str) (p q : Pos) (e : Int), l.length ≤ m → toks p l = .err q e → e ≠ 0
  | 0, l, p, q, e, hm, h => by
    have : l = [] := List.eq_nil_of_length_eq_zero (Nat.le_zero.1 hm)
    subst this
    rw [toks_nil] at h
    cases h
  | m + 1, [], p, q, e, hm, h => by
    rw [toks_nil] at h
    cases h
  | m + 1, c :: t, p, q, e, hm, h => by
    rw [toks_cons] at h
    have htook := tok1_took c t
    cases h1 : tok1 (c :: t) with
    | bad =>
      rw [h1] at h
      simp only [Res.err.injEq] at h
      omega
    | skip j =>
      rw [h1] at h htook
      simp only [T1.took] at htook
      exact toks_err m _ _ q e (by simp at hm htook ⊢; omega) h
    | tok kd tx j =>
      rw [h1] at h htook
      simp only [T1.took] at htook
      simp only at h
      cases hr : toks (advs p ((c :: t).take j)) ((c :: t).drop j) with
      | err q2 e2 =>
        rw [hr] at h
        simp only [Res.push, Res.err.injEq] at h
        rw [← h.2]
        exact toks_err m _ _ q2 e2 (by simp at hm htook ⊢; omega) hr
      | ok r => rw [hr] at h; cases h
theorem tokens_err {s : Str} {p : Pos} {e : Int} (h : tokens s = .err p e) : e ≠ 0 := by
  unfold tokens at h
  cases hck : Lx.check s with
  | mk p2 e2 =>
    rw [hck] at h
    simp only at h
    split at h
    · exact toks_err s.length s _ p e (Nat.le_refl _) h
    · rename_i he
      simp only [Res.err.injEq] at h
      rw [← h.2]
      exact he
def parseOut : Res (List Node) → V
  | .ok ns => .tuple [.vec false (encNs ns), .agg (encP ⟨0, 0⟩), .int .i64 0]
  | .err p e => .tuple [.vec false [], .agg (encP p), .int .i64 e]
def S_Parse (P : Program) (K : Knobs) (X : ExtV) (f : Nat) : Prop := ∀ (fl : Nat) (σ : St) (s : Str), fl ≤ σ.size → σ.pin ≤ σ.size →
    Big P K X (.call fl f [.str s] σ (parseOut (parse s)) σ)
theorem tokens_ok {s : Str} {ts : List Tok} (h : tokens s = .ok ts) : kinds ts ∧ ts.length ≤ 65536 := by
  unfold tokens at h
  cases hck : Lx.check s with
  | mk p e =>
    rw [hck] at h
    simp only at h
    split at h
    · rename_i he
      have hz := check_zero (s := s) (by rw [hck]; exact he)
      have := toks_kinds s.length s _ ts (Nat.le_refl _) h
      exact ⟨this.1, by have := this.2; have := hz.2; omega⟩
    · cases h
theorem Parse_ok {f ft fli : Nat} (ht : S_Tokens P K X ft) (hl : S_list P K X fli) (H : Has P K f false (c_tree_Parse ft fli)) : S_Parse P K X f := by
  intro fl σ s hfl hp
  have h : ∀ (R : V → St → Prop), R (parseOut (parse s)) σ → ∃ v σ', R v σ' ∧ Big P K X (.call fl f [.str s] σ v σ') := by
    intro R hR
    refine H_callE H (Nat.le_of_ble_eq_true rfl) ?_
    simp [c_tree_Parse]
    refine callM_of (ht _ _ s (by simp [nearq hfl]) (by simp [pinned hp])) ?_
    unfold parse at hR
    cases hts : tokens s with
    | err p e =>
      rw [hts] at hR
      have he := tokens_err hts
      simp [tokensOut, encP, nearq hfl, pinned hp, he]
      simpa [parseOut, encP] using hR
    | ok ts =>
      rw [hts] at hR
      simp only [parseToks_eq] at hR
      obtain ⟨hk, hlen⟩ := tokens_ok hts
      simp [tokensOut, encP, nearq hfl, pinned hp]
      refine callM_ex2 (hl ts.length _ _ (σ.size + 1 + 1) ⟨ts, 0, ⟨0, 0⟩⟩ 0 ⟨0, 0⟩ (by simp [nearq hfl]) (by simp [pinned hp]) (by simp [Rd.enc, encToks, encP]) rfl hk (by omega) (Nat.le_refl _) (by simp; omega)) ?_
      intro a r' hfin
      have hg := pL_good ts 0 ⟨0, 0⟩
      cases hq : pL 0 ⟨0, 0⟩ ts with
      | ok b rest =>
        rw [hq] at hR hfin
        simp only [Fin] at hfin
        obtain ⟨rfl, rfl⟩ := hfin
        simp [nearq hfl, pinned hp, Rd.enc, encP, encToks]
        simpa [parseOut, encP] using hR
      | err pp ee =>
        rw [hq] at hR hfin hg
        simp only [Fin] at hfin
        have he : ¬ r'.err = 0 := by rw [hfin.1]; exact hg
        simp [nearq hfl, pinned hp, Rd.enc, encP, encToks, he]
        simpa [parseOut, encP, hfin.1, hfin.2.1] using hR
  obtain ⟨v, σ', ⟨rfl, rfl⟩, h2⟩ := h (fun v σ' => v = parseOut (parse s) ∧ σ' = σ) ⟨rfl, rfl⟩
  exact h2
end Go.Vw.Wm
end
section
/- The walk of the law TreeNames. -/
namespace Go.Vw.Wm
open Go Go.RowKit Go.Abs Go.Vw Lx Tr
set_option maxRecDepth 20000
set_option linter.unusedSimpArgs false
set_option linter.unusedVariables false
variable {P : Program} {K : Knobs} {X : ExtV}

def S_FindNil (P : Program) (K : Knobs) (X : ExtV) (f : Nat) : Prop := ∀ (fl : Nat) (σ : St), fl ≤ σ.size → σ.pin ≤ σ.size → Big P K X (.call fl f [.vec false [], .vec false []] σ (.tuple [.vec false [], .bool false]) σ)
theorem FindNil_ok {f fe ft : Nat} (H : Has P K f false (c_tree_Find fe ft)) : S_FindNil P K X f := by
  intro fl σ hfl hp
  refine H_call H (Nat.le_of_ble_eq_true rfl) ?_
  simp [c_tree_Find]
  refine loopM_at (l_tree_Find_0.eq_1 _ _) ?_
  simp [pinned hp]
def S_MergeNil (P : Program) (K : Knobs) (X : ExtV) (f : Nat) : Prop := ∀ (fl : Nat) (σ : St), fl ≤ σ.size → σ.pin ≤ σ.size → Big P K X (.call fl f [.vec false []] σ (.vec false []) σ)
theorem MergeNil_ok {f a b c d : Nat} (H : Has P K f false (c_tree_Merge a b c f d)) : S_MergeNil P K X f := by
  intro fl σ hfl hp
  refine H_call H (Nat.le_of_ble_eq_true rfl) ?_
  simp [c_tree_Merge]
  refine loopM_at (l_tree_Merge_1.eq_1 _ _ _ _) ?_
  simp [pinned hp]
  refine loopM_at (l_tree_Merge_0.eq_1 _) ?_
  simp [pinned hp]

def rep (n : Nat) (s : Str) : Str := (List.replicate n s).flatten
theorem rep_succ (n : Nat) (s : Str) : rep (n + 1) s = rep n s ++ s := by
  unfold rep
  rw [List.replicate_succ', List.flatten_append]
  simp
theorem rep_len (n : Nat) (s : Str) : (rep n s).length = n * s.length := by
  unfold rep; simp
section
variable {wm : TypeId → Bool} {n fl : Nat} {Q : Ex → VEnv → St → Prop} {k : List Lf} {σ : St}
theorem names_loop (hp : σ.pin ≤ σ.size)
    (hE : ∀ ρ', ρ' 1 = .str (rep 32 [97, 32, 123]) → ρ' 2 = .str (rep 32 [125]) → contM P K X wm n fl true Q k (.exit 0) ρ' σ) :
    ∀ (m i : Nat) (ρ : VEnv), i + m = 32 → ρ 1 = .str (rep i [97, 32, 123]) → ρ 2 = .str (rep i [125]) → ρ 3 = .int .i64 i → loopM P K X wm n fl true Q l_law14_TreeNames_0 k ρ σ := by
  intro m
  induction m with
  | zero =>
    intro i ρ hi r1 r2 r3
    have : i = 32 := by omega
    subst this
    refine loopM_at l_law14_TreeNames_0.eq_1 ?_
    simp [r3, pinned hp]
    exact hE _ (by simp [r1]) (by simp [r2])
  | succ m ih =>
    intro i ρ hi r1 r2 r3
    have hlt : (i : Int) < 32 := by omega
    have hlt' : i < 32 := by omega
    have hw : IntKind.i64.wrap ((i : Int) + 1) = (i : Int) + 1 := wrap_i64 (by omega) (by omega)
    have l1 := rep_len i [97, 32, 123]
    have l2 := rep_len i [125]
    simp at l1 l2
    have a1 : (rep i [97, 32, 123]).length + ([97, 32, 123] : Str).length ≤ 33554432 := by simp [l1]; omega
    have a2 : (rep i [125]).length + ([125] : Str).length ≤ 33554432 := by simp [l2]; omega
    refine loopM_at l_law14_TreeNames_0.eq_1 ?_
    simp [r3, r1, r2, hlt, hlt', hw, pinned hp, binK_saddS 0 a1, binK_saddS 0 a2]
    refine ih (i + 1) _ (by omega) ?_ ?_ ?_ <;> simp [rep_succ]
end
def s1 : Str := rep 32 [97, 32, 123] ++ rep 32 [125]
def s2 : Str := rep 32 [97, 32, 123] ++ [97, 32, 123] ++ rep 32 [125] ++ [125]
theorem names_1 : (match parse s1 with | .ok _ => true | .err _ _ => false) = true := by decide +kernel
theorem names_2 : (match parse s2 with | .ok _ => false | .err p e => decide (p.line = 1) && decide (p.col = 99) && decide (e = 140)) = true := by decide +kernel
theorem names_1' : ∃ ns, parse s1 = .ok ns := by
  have := names_1
  cases h : parse s1 with
  | ok ns => exact ⟨ns, rfl⟩
  | err p e => rw [h] at this; cases this
theorem names_2' : parse s2 = .err ⟨1, 99⟩ 140 := by
  have := names_2
  cases h : parse s2 with
  | ok ns => rw [h] at this; cases this
  | err p e =>
    rw [h] at this
    simp only [Bool.and_eq_true, decide_eq_true_eq] at this
    obtain ⟨⟨h1, h2⟩, h3⟩ := this
    obtain ⟨l, c⟩ := p
    simp only at h1 h2
    subst h1 h2 h3
    rfl
def n1 : List Node := [.mk [] [] false []]
def n2 : List Node := [.mk [[97]] [] false [.mk [[98]] [] false []]]
def n3 : List Node := [.mk [[97, 34]] [] false []]
def n4 : List Node := [.mk [[97, 32, 98], []] [] true []]
theorem p1 : prs 0 n1 = none := rfl
theorem p2 : prs 0 n2 = none := rfl
theorem p3 : prs 0 n3 = none := by decide +kernel
theorem p4 : prs 0 n4 = some [34, 97, 32, 98, 34, 32, 34, 34, 32, 123, 10, 125, 10] := by decide +kernel
def S_TreeNames (P : Program) (K : Knobs) (X : ExtV) (f : Nat) : Prop := ∀ (fl : Nat) (σ : St), fl ≤ σ.size → σ.pin ≤ σ.size → Big P K X (.call fl f [] σ (.bool true) σ)
theorem TreeNames_ok {f fp fr ff fm : Nat} (hp' : S_Parse P K X fp) (hr : S_Print P K X fr) (hf : S_FindNil P K X ff) (hm : S_MergeNil P K X fm) (H : Has P K f false (c_law14_TreeNames fp fr ff fm)) : S_TreeNames P K X f := by
  intro fl σ hfl hp
  obtain ⟨ns, hns⟩ := names_1'
  refine H_call H (Nat.le_of_ble_eq_true rfl) ?_
  simp [c_law14_TreeNames]
  refine names_loop (pinned hp).1 ?_ 32 0 _ rfl ?_ ?_ ?_
  · intro ρ' r1 r2
    have l1 := rep_len 32 [97, 32, 123]
    have l2 := rep_len 32 [125]
    simp at l1 l2
    have a1 : (rep 32 [97, 32, 123]).length + (rep 32 [125]).length ≤ 33554432 := by omega
    simp [r1, r2, binK_saddS 0 a1]
    refine callM_of (hp' _ _ s1 (by simp [nearq hfl]) (by simp [pinned hp])) ?_
    rw [hns]
    have k1 : (rep 32 [97, 32, 123]).length = 96 := by rw [rep_len]; rfl
    have k2 : (rep 32 [125]).length = 32 := by rw [rep_len]; rfl
    simp [parseOut, encP, nearq hfl, pinned hp, r1, r2, k1, k2]
    refine callM_of (hp' _ _ s2 (by simp [nearq hfl]) (by simp [pinned hp])) ?_
    rw [names_2']
    simp [parseOut, encP, nearq hfl, pinned hp]
    refine callM_of (hr _ _ n1 (by simp [nearq hfl]) (by simp [pinned hp]) (by decide)) ?_
    rw [p1]
    simp [printOut, nearq hfl, pinned hp]
    refine callM_of (hr _ _ n2 (by simp [nearq hfl]) (by simp [pinned hp]) (by decide)) ?_
    rw [p2]
    simp [printOut, nearq hfl, pinned hp]
    refine callM_of (hr _ _ n3 (by simp [nearq hfl]) (by simp [pinned hp]) (by decide)) ?_
    rw [p3]
    simp [printOut, nearq hfl, pinned hp]
    refine callM_of (hr _ _ n4 (by simp [nearq hfl]) (by simp [pinned hp]) (by decide)) ?_
    rw [p4]
    simp [printOut, nearq hfl, pinned hp]
    refine callM_of (hf _ _ (by simp [nearq hfl]) (by simp [pinned hp])) ?_
    simp [nearq hfl, pinned hp]
    refine callM_of (hm _ _ (by simp [nearq hfl]) (by simp [pinned hp])) ?_
    simp [nearq hfl, pinned hp]
  all_goals simp [rep]
end Go.Vw.Wm
end
