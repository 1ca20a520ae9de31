import Derived.Test.YtadmkkbgdbcjiaaGreatLib10
import GoSem.Claims
import Derived.RowKit3
import Derived.DeepKeys3
import Derived.Laws.StructEq
/-
Answers that are kept; structs of numbers and bools; tables out of trees. No condition.
-/
/-
Answers that are kept: a call whose arguments and result have no ids is known from one run.
-/
set_option linter.unusedVariables false
set_option linter.unusedSimpArgs false
noncomputable section
namespace Go.Drip

/-! ### Values without ids that stand for the same -/
def eqL (e : AV → AV → Bool) (l : List AV) : List AV → Bool :=
  @List.rec AV (fun _ => List AV → Bool) (fun m => lst m true fun _ _ => false) (fun a _ ih m => lst m false fun b m => cnd (e a b) (ih m) false) l
/-- Rows below a number. -/
def eqR (e : AV → AV → Bool) (f g : Nat → List AV) (n : Nat) : Bool := @Nat.rec (fun _ => Bool) true (fun i r => cnd r (eqL e (f i) (g i)) false) n
def fnEq : Fn → Fn → Bool
  | .func a, .func b => Nat.beq a b
  | _, _ => false
def eqX (e : AV → AV → Bool) : AX AV → AX AV → Bool
  | .str s, .str r => bytesEq s r
  | .nils, .nils => true
  | .nilp, .nilp => true
  | .nilf, .nilf => true
  | .ip l, .ip m => eqL e l m
  | .z, .z => true
  | .imm sz n f, .imm sz' n' g => cnd (Nat.beq sz sz') (cnd (Nat.beq n n') (cnd (eqR e f g n) (cnd (Nat.beq n 0) (lst (f 0) (lst (g 0) true fun _ _ => false) fun _ _ => true) true) false) false) false
  | .fn f a b, .fn g a' b' => cnd (fnEq f g) (cnd (eqL e a a') (eqL e b b') false) false
  | .tup l, .tup m => eqL e l m
  | _, _ => false
def eqF (e : AV → AV → Bool) : AF AV → AF AV → Bool
  | .num j a, .num k b => cnd (kindEq j k) (intEq a b) false
  | .bool a, .bool b => boolEq a b
  | .agg l, .agg m => eqL e l m
  | .x v, .x w => eqX e v w
  | _, _ => false
def eqV : Nat → AV → AV → Bool
  | 0 => fun _ _ => false
  | k + 1 => fun x y => eqF (eqV k) x.f y.f

theorem eqL_spec {e : AV → AV → Bool} : ∀ {l m : List AV}, eqL e l m = true → l.length = m.length ∧ ∀ (i : Nat) (a b : AV), l[i]? = some a → m[i]? = some b → e a b = true := by
  intro l
  induction l with
  | nil =>
    intro m h
    cases m with
    | nil => exact ⟨rfl, fun i a b h => by simp at h⟩
    | cons b m => cases h
  | cons a l ih =>
    intro m h
    cases m with
    | nil => cases h
    | cons b m =>
      change cnd (e a b) (eqL e l m) false = true at h
      cases hab : e a b with
      | false => rw [hab] at h; cases h
      | true =>
        rw [hab] at h
        obtain ⟨h1, h2⟩ := ih h
        refine ⟨by simp [h1], fun i x y hx hy => ?_⟩
        cases i with
        | zero => simp at hx hy; subst hx; subst hy; exact hab
        | succ i => exact h2 i x y (by simpa using hx) (by simpa using hy)
theorem eqR_spec {e : AV → AV → Bool} {f g : Nat → List AV} : ∀ {n : Nat}, eqR e f g n = true → ∀ i, i < n → eqL e (f i) (g i) = true := by
  intro n
  induction n with
  | zero => intro _ i hi; omega
  | succ n ih =>
    intro h i hi
    change cnd (eqR e f g n) (eqL e (f n) (g n)) false = true at h
    cases hr : eqR e f g n with
    | false => rw [hr] at h; cases h
    | true =>
      rw [hr] at h
      by_cases hin : i = n
      · subst hin; exact h
      · exact ih hr i (by omega)
theorem eqL_one {e : AV → AV → Bool} {a b : AV} (h : eqL e [a] [b] = true) : e a b = true := by
  change cnd (e a b) _ false = true at h
  cases hab : e a b with
  | false => rw [hab] at h; cases h
  | true => rfl
theorem fnEq_spec {f g : Fn} (h : fnEq f g = true) : f = g ∧ ∃ a, f = .func a := by
  cases f <;> cases g <;> first | cases h | exact ⟨by rw [Nat.eq_of_beq_eq_true h], _, rfl⟩
theorem mark_eq {f g : Nat → List AV} (h : cnd (Nat.beq 0 0) (lst (f 0) (lst (g 0) true fun _ _ => false) fun _ _ => true) true = true) (hf : f 0 = []) : g 0 = [] := by
  rw [hf] at h
  cases hg : g 0 with
  | nil => rfl
  | cons a l => rw [hg] at h; cases h
theorem cnd_tt {a b : Bool} (h : cnd a b false = true) : a = true ∧ b = true := by cases a with | false => cases h | true => exact ⟨rfl, h⟩

section
variable {w : World} {c c' : Cx}
theorem rows_eq {e : AV → AV → Bool} {l m : List AV} (h : eqL e l m = true) {i : Nat} {u : AV} (hu : m[i]? = some u) : ∃ u', l[i]? = some u' ∧ e u' u = true := by
  obtain ⟨h1, h2⟩ := eqL_spec h
  have hi := (List.getElem?_eq_some_iff.1 hu).1
  have hl := List.getElem?_eq_getElem (l := l) (i := i) (by omega)
  exact ⟨_, hl, h2 i _ u hl hu⟩
theorem eqV_sound (hS : ∀ k, c.S k → c'.S k) : ∀ {k : Nat} {x y : AV} {v : Value}, eqV k x y = true → VR w c x v → VR w c' y v := by
  intro k
  induction k with
  | zero => intro x y v h; cases h
  | succ k ih =>
    intro x y v h hv
    obtain ⟨x⟩ := x
    obtain ⟨y⟩ := y
    change eqF (eqV k) x y = true at h
    cases x with
    | num j a =>
      cases y with
      | num j' b =>
        obtain ⟨h1, h2⟩ := cnd_tt h
        have := kindEq_true h1
        subst this
        rw [intEq_eq] at h2
        have : a = b := by simpa using h2
        subst this
        rw [hv.inv_num]; exact .num _ _
      | _ => cases h
    | bool a =>
      cases y with
      | bool b =>
        change boolEq a b = true at h
        rw [boolEq_eq] at h
        have : a = b := by simpa using h
        subst this
        rw [hv.inv_bool]; exact .bool _
      | _ => cases h
    | ptr b r o => cases y <;> cases h
    | sl b r m s cap => cases y <;> cases h
    | agg l =>
      cases y with
      | agg m =>
        change eqL (eqV k) l m = true at h
        obtain ⟨vs, rfl, h1, h2, h3⟩ := hv.inv_agg
        refine .agg m vs (by rw [← (eqL_spec h).1]; exact h1) h2 fun i u v hu hv => ?_
        obtain ⟨u', hu', he⟩ := rows_eq h hu
        exact ih he (h3 i u' v hu' hv)
      | _ => cases h
    | x x =>
      cases y with
      | x y =>
        change eqX (eqV k) x y = true at h
        cases x with
        | str s =>
          cases y with
          | str r =>
            change bytesEq s r = true at h
            rw [bytesEq_eq] at h
            have : s = r := by simpa using h
            subst this
            obtain ⟨t, rfl, ht⟩ := hv.inv_str
            rw [← ht]; exact .str t
          | _ => cases h
        | nils => cases y with
          | nils => cases hv; exact .nils
          | _ => cases h
        | nilp => cases y with
          | nilp => cases hv; exact .nilp
          | _ => cases h
        | nilf => cases y with
          | nilf => cases hv; exact .nilf
          | _ => cases h
        | z => cases y with
          | z => cases hv; exact .z _
          | _ => cases h
        | ip l =>
          cases y with
          | ip m =>
            change eqL (eqV k) l m = true at h
            cases hv with
            | ip _ g o vals hs hc h1 hv =>
              have hl := (eqL_spec h).1
              refine .ip m g o vals (fun hm => hS _ (hs (by omega))) (fun j hj => hc j (by omega)) (fun j hj => h1 j (by omega)) fun j u hu => ?_
              obtain ⟨u', hu', he⟩ := rows_eq h hu
              exact ih he (hv j u' hu')
          | _ => cases h
        | imm sz n f =>
          cases y with
          | imm sz' n' g =>
            obtain ⟨h1, h2⟩ := cnd_tt h
            obtain ⟨h3, h40⟩ := cnd_tt h2
            obtain ⟨h4, h5⟩ := cnd_tt h40
            have := Nat.eq_of_beq_eq_true h1
            subst this
            have := Nat.eq_of_beq_eq_true h3
            subst this
            have hrow := eqR_spec h4
            cases hv with
            | imm _ _ _ gb o kk vals hk hs hl hc h1' hv =>
              have hlen : ∀ i, i < n → (g i).length = sz := fun i hi => by rw [← (eqL_spec (hrow i hi)).1]; exact hl i hi
              refine .imm sz n g gb o kk vals hk (fun a b => hS _ (hs a b)) hlen hc h1' fun i j u hi hu => ?_
              obtain ⟨u', hu', he⟩ := rows_eq (hrow i hi) hu
              exact ih he (hv i j u' hi hu')
            | immz _ _ A k hA => exact .immz _ _ _ _ fun e => mark_eq h5 (hA e)
          | _ => cases h
        | fn f a b =>
          cases y with
          | fn g a' b' =>
            obtain ⟨h1, h2⟩ := cnd_tt h
            obtain ⟨h3, h4⟩ := cnd_tt h2
            obtain ⟨rfl, fa, hfa⟩ := fnEq_spec h1
            cases hv with
            | fn _ _ _ fv cv hf l1 l2 g1 g2 =>
              refine .fn _ _ _ fv cv hf (by rw [← (eqL_spec h3).1]; exact l1) (by rw [← (eqL_spec h4).1]; exact l2) (fun i u v hu hv => ?_) fun i u v hu hv => ?_
              · obtain ⟨u', hu', he⟩ := rows_eq h3 hu
                exact ih he (g1 i u' v hu' hv)
              · obtain ⟨u', hu', he⟩ := rows_eq h4 hu
                exact ih he (g2 i u' v hu' hv)
            | yield l hl => cases hfa
          | _ => cases h
        | tup l =>
          cases y with
          | tup m =>
            change eqL (eqV k) l m = true at h
            obtain ⟨vs, rfl, h1, h3⟩ := hv.inv_tup
            refine .tup m vs (by rw [← (eqL_spec h).1]; exact h1) fun i u v hu hv => ?_
            obtain ⟨u', hu', he⟩ := rows_eq h hu
            exact ih he (h3 i u' v hu' hv)
          | _ => cases h
        | any => cases y <;> cases h
        | oth v => cases y <;> cases h
        | mp b => cases y <;> cases h
        | und => cases y <;> cases h
      | _ => cases h
end

/-! ### Answers that are kept -/
def H00 : AH := ⟨0, 0, .nil⟩
/-- A run comes to a value. -/
def comes (r : AV) (x : RV) : Bool := @RV.rec (fun _ => Bool) false (fun v _ => eqV 40 v r) x
def memo (f : FuncId) (lits : List AV) (r : AV) (G : Rec) : Rec := fun g args H => cnd (Nat.beq g f) (cnd (eqL (eqV 40) args lits) (.ok r H) (G g args H)) (G g args H)

/-- One for a function, another for all others. -/
def memoAt (f : FuncId) (G G' : Rec) : Rec := fun g args H => cnd (Nat.beq g f) (G g args H) (G' g args H)
/-- One for some heaps, another for all others. -/
def memoIf (p : AH → Bool) (G G' : Rec) : Rec := fun g args H => cnd (p H) (G g args H) (G' g args H)

def Cx.none (S : Nat → Prop) : Cx := ⟨fun _ => 0, fun _ => 0, fun _ => 0, fun _ => 0, fun _ => 0, fun _ => False, S⟩
section
variable {P : Program} {kps : FuncId → Kp} {rec G : Rec} {w w' : World} {c : Cx} {H : AH}
theorem HR.none {S : Nat → Prop} (hS : ∀ k, S k → ∃ arr e fz, w.heap[k]? = some (.cells arr e fz)) : HR kps w (Cx.none S) H00 :=
  ⟨fun b hb => hb.elim, Nat.zero_le _, Nat.le_refl _, fun b x hb => hb.elim, fun b x hb => hb.elim, fun b b' x x' hb => hb.elim, hS⟩

theorem comes_spec {r : AV} {x : RV} (h : comes r x = true) : ∃ v H, x = .ok v H ∧ eqV 40 v r = true := by
  cases x with
  | no => cases h
  | ok v H => exact ⟨v, H, rfl, h⟩

/-- What is kept is so. -/
theorem memo_ok (hrec : RecOk kps P rec) {f : FuncId} {lits : List AV} {r : AV} (hrun : comes r (rec f lits H00) = true) (hG : RecOk kps P G) : RecOk kps P (memo f lits r G) := by
  intro g args vals w c H v H' hh hargs h
  change cnd (Nat.beq g f) (cnd (eqL (eqV 40) args lits) (.ok r H) (G g args H)) (G g args H) = .ok v H' at h
  cases hgf : Nat.beq g f with
  | false => rw [hgf] at h; exact hG g args vals w c H v H' hh hargs h
  | true =>
    rw [hgf] at h
    cases heq : eqL (eqV 40) args lits with
    | false => rw [heq] at h; exact hG g args vals w c H v H' hh hargs h
    | true =>
      rw [heq] at h
      injection h with h1 h2
      subst h1; subst h2
      have := Nat.eq_of_beq_eq_true hgf
      subst this
      obtain ⟨v0, H0, hx, hv0⟩ := comes_spec hrun
      have hlits : ArgsR w (Cx.none c.S) lits vals := ⟨by rw [← (eqL_spec heq).1]; exact hargs.1, fun i u v hu hv => by
        obtain ⟨u', hu', he⟩ := rows_eq heq hu
        exact eqV_sound (c := c) (c' := Cx.none c.S) (fun k hk => hk) he (hargs.2 i u' v hu' hv)⟩
      obtain ⟨h1, h2⟩ := hrec g lits vals w (Cx.none c.S) H00 v0 H0 (HR.none hh.cS) hlits hx
      refine ⟨h1, h2.mono fun e w' he => ?_⟩
      obtain ⟨u, c0, rfl, hv, hst⟩ := he
      have hfr : ∀ k, k < w.heap.size → w'.heap[k]? = w.heap[k]? := fun k hk => hst.frame k hk fun b x hb => hb.elim
      have hS0 : ∀ k, c0.S k → c.S k ∨ w.heap.size ≤ k := fun k hk => by
        rcases hst.ownS k hk with h | ⟨b, x, hb, _⟩ | h
        · exact .inl h
        · exact hb.elim
        · exact .inr h
      have hSc : ∀ k, c.S k → w'.heap[k]? = w.heap[k]? := fun k hk => hfr k (hh.S k hk)
      have hext : Ext c ⟨c.blk, c.off, c.sz, c.rows, c.cells, c.D, fun k => c.S k ∨ c0.S k⟩ := ⟨fun _ h => h, fun _ _ => rfl, fun _ _ => rfl, fun _ _ => rfl, fun _ _ => rfl, fun _ _ => rfl, fun _ h => .inl h⟩
      refine ⟨u, ⟨c.blk, c.off, c.sz, c.rows, c.cells, c.D, fun k => c.S k ∨ c0.S k⟩, rfl, eqV_sound (c := c0) (fun k hk => Or.inr hk) hv0 hv, hst.same, hext, ⟨hh.N, hh.max, hh.pr, fun b x hb hx => ?_, fun b x hb hx hS => ?_, hh.inj, fun k hk => ?_⟩,
        fun k hk _ => hfr k hk, fun b x hb hx => .inl ⟨b, x, hb, hx, rfl⟩, rfl, fun k hk => ?_, fun b hb => .inl hb, Nat.le_refl _, fun b _ => rfl⟩
      · exact BlkR.mono (c := c) hb hext hSc (hfr _ (hh.blk b x hb hx).lt) (hh.blk b x hb hx)
      · rcases hS with hS | hS
        · exact hh.own b x hb hx hS
        · have := (hh.blk b x hb hx).lt
          rcases hS0 _ hS with h | h
          · exact hh.own b x hb hx h
          · have h : w.heap.size ≤ c.blk b := h
            omega
      · rcases hk with hk | hk
        · obtain ⟨arr, e, fz, h⟩ := hh.cS k hk
          exact ⟨arr, e, fz, by rw [hSc k hk]; exact h⟩
        · exact hst.hr.cS k hk
      · rcases hk with hk | hk
        · exact .inl hk
        · rcases hS0 k hk with h | h
          · exact .inl h
          · exact .inr (.inr h)

theorem memoAt_ok {f : FuncId} {G G' : Rec} (h : RecOk kps P G) (h' : RecOk kps P G') : RecOk kps P (memoAt f G G') := fun g args vals w c H v H' hh ha hx => by
  change cnd (Nat.beq g f) (G g args H) (G' g args H) = _ at hx
  cases hb : Nat.beq g f with
  | false => rw [hb] at hx; exact h' g args vals w c H v H' hh ha hx
  | true => rw [hb] at hx; exact h g args vals w c H v H' hh ha hx
theorem memoIf_ok {p : AH → Bool} {G G' : Rec} (h : RecOk kps P G) (h' : RecOk kps P G') : RecOk kps P (memoIf p G G') := fun g args vals w c H v H' hh ha hx => by
  change cnd (p H) (G g args H) (G' g args H) = _ at hx
  cases hb : p H with
  | false => rw [hb] at hx; exact h' g args vals w c H v H' hh ha hx
  | true => rw [hb] at hx; exact h g args vals w c H v H' hh ha hx
theorem noRec_ok : RecOk kps P fun _ _ _ => .no := fun g args vals w c H v H' _ _ h => by cases h

/-- A closed law. -/
theorem closed_law (hrec : RecOk kps P rec) {f : FuncId} (hrun : comes ⟨.bool true⟩ (rec f [] H00) = true) (w : World) :
    Calls P f #[] w fun e w' => e = .returned (.bool true) ∧ w.keptBut w' fun _ => False := by
  obtain ⟨v0, H0, hx, hv0⟩ := comes_spec hrun
  obtain ⟨_, h2⟩ := hrec f [] #[] w (Cx.none fun _ => False) H00 v0 H0 (HR.none fun k hk => hk.elim) ⟨rfl, fun i u v hu => by simp at hu⟩ hx
  refine (callsIn_wide.1 h2).mono fun e w' he => ?_
  obtain ⟨u, c0, rfl, hv, hst⟩ := he
  have := (eqV_sound (c := c0) (c' := c0) (fun _ h => h) hv0 hv).inv_bool
  subst this
  refine ⟨rfl, hst.same.os, hst.same.output, fun i hi => ?_⟩
  rw [hst.frame i hi fun b x hb => hb.elim]
  cases h : w.heap[i]? with
  | none => rfl
  | some o => cases o <;> first | exact ⟨rfl, rfl, rfl, fun j _ => rfl⟩ | exact .inr ⟨rfl, rfl⟩ | rfl
end
end Go.Drip
end

/-
Structs of numbers and bools: equality, and that they are keys.
-/
set_option linter.unusedVariables false
set_option linter.unusedSimpArgs false
namespace Go.Drip
open Go.WideShapes
section
variable {P : Program}

/-- A field's type and a cell's kind. -/
def kdB (P : Program) (t : TypeId) (k : Option IntKind) : Bool :=
  match P.underlying t, k with
  | some (.int _), some _ => true
  | some .bool, none => true
  | _, _ => false
def fieldsB (P : Program) : List Field → List (Option IntKind) → Nat → Bool
  | [], [], _ => true
  | f :: fs, k :: ks, i => f.name != "_" && f.offset == i && kdB P f.type k && fieldsB P fs ks (i + 1)
  | _, _, _ => false
def flatB (P : Program) (ty : TypeId) (ks : List (Option IntKind)) : Bool :=
  match P.underlying ty with
  | some (.struct fs) => !P.stoodInHeld ty && !P.eqGuardType P.depth ty && fieldsB P fs.toList ks 0
  | _ => false

theorem fieldsB_spec : ∀ {fs : List Field} {ks : List (Option IntKind)} {i : Nat}, fieldsB P fs ks i = true → fs.length = ks.length ∧ ∀ (j : Nat) (f : Field), fs[j]? = some f → f.name ≠ "_" ∧ f.offset = i + j ∧ ∃ k, ks[j]? = some k ∧ kdB P f.type k = true := by
  intro fs
  induction fs with
  | nil =>
    intro ks i h
    cases ks with
    | nil => exact ⟨rfl, fun j f hf => by simp at hf⟩
    | cons k ks => cases h
  | cons f fs ih =>
    intro ks i h
    cases ks with
    | nil => cases h
    | cons k ks =>
      simp only [fieldsB, Bool.and_eq_true, bne_iff_ne, ne_eq, beq_iff_eq] at h
      obtain ⟨⟨⟨h1, h2⟩, h3⟩, h4⟩ := h
      obtain ⟨h5, h6⟩ := ih h4
      refine ⟨by simp [h5], fun j g hg => ?_⟩
      cases j with
      | zero => simp at hg; subst hg; exact ⟨h1, by omega, k, rfl, h3⟩
      | succ j =>
        obtain ⟨a, b, k', c, d⟩ := h6 j g (by simpa using hg)
        exact ⟨a, by omega, k', by simpa using c, d⟩
theorem kdB_plain {t : TypeId} {k : Option IntKind} (h : kdB P t k = true) : P.plainKey t = true := by
  unfold kdB at h
  unfold Program.plainKey
  split at h <;> simp_all

variable (w : World)
theorem run_eqCell {t : TypeId} {k : Option IntKind} (h : kdB P t k = true) {x y : Value} (hxy : (∃ (q : IntKind) (a b : Int), k = some q ∧ x = .int q a ∧ y = .int q b) ∨ ∃ a b : Bool, k = none ∧ x = .bool a ∧ y = .bool b) (d : Nat) :
    ∃ r : Bool, (Op.equalIn (d + 1) t x y).run P w = .ok r w ∧ (r = true ↔ x = y) := by
  unfold kdB at h
  rcases hxy with ⟨q, a, b, rfl, rfl, rfl⟩ | ⟨a, b, rfl, rfl, rfl⟩
  · cases hu : P.underlying t with
    | none => rw [hu] at h; cases h
    | some ty =>
      rw [hu] at h
      cases ty with
      | int k' => exact ⟨a == b, run_equalIn_int w d t q k' a b hu, by simp⟩
      | _ => cases h
  · cases hu : P.underlying t with
    | none => rw [hu] at h; cases h
    | some ty =>
      rw [hu] at h
      cases ty with
      | bool => exact ⟨a == b, run_equalIn_bool' w d t a b hu, by simp⟩
      | _ => cases h
theorem run_checkCell {t : TypeId} {k : Option IntKind} (h : kdB P t k = true) (x : Value) (e : Bool) (n : Nat) : (Instr.checkKey e (n + 1) t x).run P w = .ok () w := by
  unfold kdB at h
  cases hu : P.underlying t with
  | none => rw [hu] at h; cases h
  | some ty =>
    rw [hu] at h
    unfold Instr.checkKey
    cases ty with
    | int k' => simp [run_und w hu]
    | bool => simp [run_und w hu]
    | _ => cases k <;> cases h

theorem run_eqFields_flat (d : Nat) {xs ys : Array Value} : ∀ (fs : List Field) (b : Nat), (∀ (j : Nat) (f : Field), fs[j]? = some f → f.name ≠ "_" ∧ f.offset = b + j ∧ ∃ (k : Option IntKind) (x y : Value), kdB P f.type k = true ∧ xs[b + j]? = some x ∧ ys[b + j]? = some y ∧
      ((∃ (q : IntKind) (a b : Int), k = some q ∧ x = .int q a ∧ y = .int q b) ∨ ∃ a b : Bool, k = none ∧ x = .bool a ∧ y = .bool b)) →
    ∃ r : Bool, (Op.eqFields (d + 1) xs ys fs).run P w = .ok r w ∧ (r = true ↔ ∀ j, j < fs.length → xs[b + j]? = ys[b + j]?)
  | [], b, _ => ⟨true, by simp [Op.eqFields], by simp⟩
  | f :: fs, b, h => by
    obtain ⟨h1, h2, k, x, y, h3, h4, h5, h6⟩ := h 0 f (by simp)
    obtain ⟨r, hr, hiff⟩ := run_eqCell w h3 h6 d
    have p1 := run_part_plain (P := P) w (kdB_plain h3) (off := b) (by simpa using h4)
    have p2 := run_part_plain (P := P) w (kdB_plain h3) (off := b) (by simpa using h5)
    obtain ⟨r', hr', hiff'⟩ := run_eqFields_flat d (xs := xs) (ys := ys) fs (b + 1) fun j g hg => by
      have := h (j + 1) g (by simpa using hg)
      have e : b + (j + 1) = b + 1 + j := by omega
      rw [e] at this; exact this
    simp only [Op.eqFields, h1, ne_eq, not_false_eq_true, if_true, Sem.run_bind, h2, Nat.add_zero, p1, p2, hr, Result.andThen_ok]
    have hsplit : (∀ j, j < (f :: fs).length → xs[b + j]? = ys[b + j]?) ↔ x = y ∧ ∀ j, j < fs.length → xs[b + 1 + j]? = ys[b + 1 + j]? := by
      constructor
      · intro hall
        refine ⟨?_, fun j hj => ?_⟩
        · have := hall 0 (by simp)
          rw [h4, h5] at this; injection this
        · have := hall (j + 1) (by simpa using hj)
          have e : b + (j + 1) = b + 1 + j := by omega
          rw [e] at this; exact this
      · rintro ⟨hxy, hall⟩ j hj
        cases j with
        | zero => rw [h4, h5, hxy]
        | succ j =>
          have e : b + (j + 1) = b + 1 + j := by omega
          rw [e]; exact hall j (by simpa using hj)
    rw [hsplit]
    cases r
    · exact ⟨false, by simp, by
        constructor
        · intro h; cases h
        · rintro ⟨h, _⟩; have := hiff.2 h; cases this⟩
    · exact ⟨r', by simpa using hr', by rw [hiff']; simp [hiff.1 rfl]⟩

theorem flat_ok {ty : TypeId} {ks : List (Option IntKind)} (h : flatB P ty ks = true) : P.eqGuardType P.depth ty = false ∧ ∀ (xs ys : Array Value) (w : World), xs.size = ks.length → ys.size = ks.length → Kdp ks xs ys →
    (∃ r : Bool, (Op.equal ty (.agg xs) (.agg ys)).run P w = .ok r w ∧ (r = true ↔ xs = ys)) ∧ ∀ e : Bool, (Instr.checkKey e 10000 ty (.agg xs)).run P w = .ok () w := by
  unfold flatB at h
  split at h
  · rename_i fs hu
    simp only [Bool.and_eq_true, Bool.not_eq_true'] at h
    obtain ⟨⟨h1, h2⟩, h3⟩ := h
    obtain ⟨h4, h5⟩ := fieldsB_spec h3
    refine ⟨h2, fun xs ys w hx hy hkd => ?_⟩
    have hf : P.fieldsOf ty = fs := by simp [Program.fieldsOf, hu]
    have hall : ∀ (j : Nat) (f : Field), fs.toList[j]? = some f → f.name ≠ "_" ∧ f.offset = 0 + j ∧ ∃ (k : Option IntKind) (x y : Value), kdB P f.type k = true ∧ xs[0 + j]? = some x ∧ ys[0 + j]? = some y ∧
        ((∃ (q : IntKind) (a b : Int), k = some q ∧ x = .int q a ∧ y = .int q b) ∨ ∃ a b : Bool, k = none ∧ x = .bool a ∧ y = .bool b) := fun j f hj => by
      obtain ⟨g1, g2, k, g3, g4⟩ := h5 j f hj
      have hjk := (List.getElem?_eq_some_iff.1 g3).1
      have ex : xs[j]? = some (xs[j]'(by omega)) := Array.getElem?_eq_getElem _
      have ey : ys[j]? = some (ys[j]'(by omega)) := Array.getElem?_eq_getElem _
      refine ⟨g1, g2, k, _, _, g4, by rw [Nat.zero_add]; exact ex, by rw [Nat.zero_add]; exact ey, ?_⟩
      rcases hkd j _ _ ex ey with ⟨q, a, b, e1, e2, e3⟩ | ⟨a, b, e1, e2, e3⟩
      · rw [g3] at e1; injection e1 with e1
        exact .inl ⟨q, a, b, e1, e2, e3⟩
      · rw [g3] at e1; injection e1 with e1
        exact .inr ⟨a, b, e1, e2, e3⟩
    constructor
    · obtain ⟨r, hr, hiff⟩ := run_eqFields_flat w 9998 (xs := xs) (ys := ys) fs.toList 0 hall
      refine ⟨r, ?_, ?_⟩
      · show (Op.equalIn (9999 + 1) ty (.agg xs) (.agg ys)).run P w = _
        rw [run_equalIn_struct w 9999 ty xs ys (by rw [hf]; exact hu) h1, hf]
        exact hr
      · rw [hiff]
        constructor
        · intro hj
          refine arr_ext (by omega) fun i hi => ?_
          have := hj i (by omega)
          rw [Nat.zero_add] at this; exact this
        · intro h j _; rw [h]
    · intro e
      have hmem : ∀ f ∈ fs.toList, f.name ≠ "_" ∧ ∃ (k : Option IntKind) (x : Value), kdB P f.type k = true ∧ xs[f.offset]? = some x := fun f hm => by
        obtain ⟨j, hj⟩ := List.getElem?_of_mem hm
        obtain ⟨g1, g2, k, x, _, g4, g5, _⟩ := hall j f hj
        exact ⟨g1, k, x, g4, by rw [g2]; exact g5⟩
      rw [show (10000 : Nat) = 9999 + 1 from rfl, Instr.checkKey]
      simp only [Sem.run_bind, run_underlying hu, Result.andThen_ok]
      rw [← Array.forIn_toList]
      clear hall h5 h4 h3 hf hu
      generalize fs.toList = L at hmem
      induction L with
      | nil => simp
      | cons f L ih =>
        obtain ⟨hn, k, x, g1, g2⟩ := hmem f (by simp)
        have p1 := run_part_plain (P := P) w (kdB_plain g1) g2
        have p2 := run_checkCell w g1 x e 9998
        simp only [List.forIn_cons, Sem.run_bind, hn, ne_eq, not_false_eq_true, if_true, Result.andThen_ok, p1, p2, Sem.run_pure]
        exact ih fun y hy => hmem y (by simp [hy])
  · cases h
end
end Go.Drip

/-
The tables of a program, from trees whose leaves are what the program's load proves.
-/
set_option linter.unusedVariables false
set_option linter.unusedSimpArgs false
noncomputable section
namespace Go.Drip

inductive AllT {α : Type} (Q : α → Prop) : Tr α → Prop
  | nil : AllT Q .nil
  | leaf (x : α) (h : Q x) : AllT Q (.leaf x)
  | node (a b c d : Tr α) (ha : AllT Q a) (hb : AllT Q b) (hc : AllT Q c) (hd : AllT Q d) : AllT Q (.node a b c d)

/-- The leaf of a number, if it bears that number. -/
def at5 {α : Type} (t : Tr (Nat × α)) (i : Nat) : Option α := opt (Tr.get (path 5 i []) t) none fun p => cnd (Nat.beq p.1 i) (some p.2) none
def undT (t : Tr (Nat × TypeInfo)) (ty : Nat) : Option TypeDesc :=
  match at5 t ty with
  | some i => (match i.desc with | .named _ u => opt (at5 t u) none (fun j => some j.desc) | d => some d)
  | none => none
def isAggV : Value → Bool
  | .agg _ => true
  | _ => false
def zeroOk (i : TypeInfo) (z : Value) (d : Option TypeDesc) : Bool :=
  cnd (Nat.beq i.size z.cells.toList.length) (cnd (z.cells.toList.all Value.oneCell') (opt d false fun d => cnd (isAggD d) (isAggV z) z.oneCell') false) false
def flatT (l : List (Nat × List (Option IntKind))) (ty : Nat) : Option (List (Option IntKind)) := @List.rec _ (fun _ => Option (List (Option IntKind))) none (fun p _ r => cnd (Nat.beq p.1 ty) (some p.2) r) l
def mkTab (tys : Tr (Nat × TypeInfo)) (fns : Tr (Nat × Func)) (fl : List (Nat × List (Option IntKind))) : Tab where
  und := undT tys
  size := fun ty => opt (at5 tys ty) none fun i => some i.size
  bytes := fun ty => opt (at5 tys ty) 0 fun i => i.bytes
  zero := fun ty => opt (at5 tys ty) none fun i => opt i.zero none fun z => cnd (zeroOk i z (undT tys ty)) (some (z.cells.toList.map ofVal1)) none
  fn := at5 fns
  flat := flatT fl

theorem AllT.get' {α : Type} {Q : α → Prop} : ∀ (p : List Go.Drip.Q) (t : Tr α) (x : α), AllT Q t → Tr.get p t = some x → Q x := by
  intro p
  induction p with
  | nil =>
    intro t x h hx
    cases h with
    | nil => cases hx
    | leaf y hy => injection hx with hx; subst hx; exact hy
    | node => cases hx
  | cons q p ih =>
    intro t x h hx
    cases h with
    | nil => cases hx
    | leaf y hy => cases hx
    | node a b c d ha hb hc hd => cases q <;> first | exact ih _ _ ha hx | exact ih _ _ hb hx | exact ih _ _ hc hx | exact ih _ _ hd hx
theorem at5_some {α : Type} {Q : Nat × α → Prop} {t : Tr (Nat × α)} (h : AllT Q t) {i : Nat} {x : α} (hx : at5 t i = some x) : Q (i, x) := by
  unfold at5 at hx
  obtain ⟨p, hp, h2⟩ := ob_some (hx : ob (Tr.get (path 5 i []) t) _ = some x)
  obtain ⟨h3, h4⟩ := cnd_some h2
  injection h4 with h4
  have h5 := Nat.eq_of_beq_eq_true h3
  have := AllT.get' _ _ _ h hp
  rw [← h4, ← h5]; exact this

section
variable {P : Program}
theorem info_of {k : Nat} {i : TypeInfo} (h : P.types[k]? = some i) : P.info? k = some i := by
  have hk : k < P.types.size := (Array.getElem?_eq_some_iff.1 h).1
  unfold Tables.info?
  rw [if_pos hk]; exact h
theorem undT_ok {tys : Tr (Nat × TypeInfo)} (h : AllT (fun p => P.types[p.1]? = some p.2) tys) {ty : Nat} {d : TypeDesc} (hd : undT tys ty = some d) : P.underlying ty = some d := by
  unfold undT at hd
  cases hi : at5 tys ty with
  | none => rw [hi] at hd; cases hd
  | some i =>
    rw [hi] at hd
    have h1 := info_of (at5_some h hi)
    unfold Program.underlying
    cases hdesc : i.desc with
    | named a u =>
      simp only [hdesc] at hd
      obtain ⟨j, hj, h2⟩ := ob_some (hd : ob (at5 tys u) _ = some d)
      injection h2 with h2
      have h3 := info_of (at5_some h hj)
      obtain ⟨desc, str, rest⟩ := i
      simp only at hdesc
      subst hdesc
      simp only at h1
      rw [h1]
      simp only [h3, Option.map_some, h2]
    | _ =>
      simp only [hdesc] at hd
      obtain ⟨desc, str, rest⟩ := i
      simp only at hdesc
      subst hdesc
      rw [h1]
      exact hd
theorem mkTab_ok {tys : Tr (Nat × TypeInfo)} {fns : Tr (Nat × Func)} {fl : List (Nat × List (Option IntKind))} (hty : AllT (fun p => P.types[p.1]? = some p.2) tys)
    (hfn : AllT (fun p => P.funcs[p.1]? = some p.2 ∧ ∀ args w, (callFunc p.1 args).run P w = .ok (.enter p.1 args) w) fns) (hfl : ∀ p ∈ fl, flatB P p.1 p.2 = true) (hm : P.follows .mixedOrders = true) : (mkTab tys fns fl).Ok P := by
  refine ⟨fun ty d h => undT_ok hty h, fun ty n h => ?_, fun ty zs h => ?_, fun f fn h => ?_, fun ty ks h => ?_, hm⟩
  · obtain ⟨i, hi, h2⟩ := ob_some (h : ob (at5 tys ty) _ = some n)
    injection h2 with h2
    refine ⟨i, info_of (at5_some hty hi), h2, ?_⟩
    show i.bytes = opt (at5 tys ty) 0 fun i => i.bytes
    rw [hi]
  · obtain ⟨i, hi, h2⟩ := ob_some (h : ob (at5 tys ty) _ = some zs)
    obtain ⟨z, hz, h3⟩ := ob_some h2
    obtain ⟨h4, h5⟩ := cnd_some h3
    injection h5 with h5
    unfold zeroOk at h4
    obtain ⟨h6, h7⟩ := cnd_tt h4
    obtain ⟨h8, h9⟩ := cnd_tt h7
    refine ⟨i, z, info_of (at5_some hty hi), hz, h5.symm, ?_, ?_, ?_⟩
    · have := Nat.eq_of_beq_eq_true h6
      rw [this]; simp
    · intro v hv
      exact List.all_eq_true.1 h8 v hv
    · intro d hd
      cases hu : undT tys ty with
      | none => rw [hu] at h9; cases h9
      | some d' =>
        rw [hu] at h9
        have := undT_ok hty hu
        rw [hd] at this; injection this with this; subst this
        have h9 : cnd (isAggD d) (isAggV z) z.oneCell' = true := h9
        constructor
        · intro ha
          rw [ha] at h9
          cases z <;> first | exact ⟨_, rfl⟩ | cases h9
        · intro ha
          rw [ha] at h9
          exact oneCell_cells h9
  · obtain ⟨h1, h2⟩ := at5_some hfn h
    exact ⟨h1, fun c _ => h2⟩
  · have key : ∀ l : List (Nat × List (Option IntKind)), flatT l ty = some ks → (ty, ks) ∈ l := by
      intro l
      induction l with
      | nil => intro h0; cases h0
      | cons p l ih =>
        intro h
        change cnd (Nat.beq p.1 ty) (some p.2) (flatT l ty) = some ks at h
        cases hp : Nat.beq p.1 ty with
        | true =>
          rw [hp] at h; injection h with hks
          have hpt := Nat.eq_of_beq_eq_true hp
          obtain ⟨p1, p2⟩ := p
          simp only at hpt hks
          subst hpt; subst hks
          exact .head _
        | false => rw [hp] at h; exact .tail _ (ih h)
    exact flat_ok (hfl _ (key fl h))
end
end Go.Drip
end

