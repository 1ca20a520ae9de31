import Derived.Test.YtadmkkbgdbcjiaaGreatLib06
import Derived.RangeFuncLeaves
import Derived.LoopNIn
import Derived.OrdersIn
/-
Operations one behind another, rounds of range-over-function, calls, code. No condition.
-/
/-
Activations; operations one behind another.
-/
set_option linter.unusedVariables false
set_option linter.unusedSimpArgs false
namespace Go.Drip

/-! ### Activations -/
section
variable {P : Program} {w w' : World} {c c' : Cx} {n : Nat} {kp : Kp} {R : Rl} {T : Tr AV} {a : Act} {t : Tab} {kps : FuncId → Kp} {H H' : AH}

theorem posIn_some {l : List Nat} {i j : Nat} (h : posIn l i = some j) : l[j]? = some i := by
  have key : ∀ (l : List Nat) (k j : Nat), (@List.rec Nat (fun _ => Nat → Option Nat) (fun _ => none) (fun a _ ih n => cnd (Nat.beq a i) (some n) (ih (Nat.succ n))) l k) = some j → ∃ d, j = k + d ∧ l[d]? = some i := by
    intro l
    induction l with
    | nil => intro k j h; cases h
    | cons x l ih =>
      intro k j h
      change cnd (Nat.beq x i) (some k) _ = some j at h
      cases hx : Nat.beq x i with
      | true =>
        rw [hx] at h; injection h with h
        exact ⟨0, by omega, by rw [Nat.eq_of_beq_eq_true hx]; rfl⟩
      | false =>
        rw [hx] at h
        obtain ⟨d, h1, h2⟩ := ih _ _ h
        exact ⟨d + 1, by omega, by simpa using h2⟩
  obtain ⟨d, h1, h2⟩ := key l 0 j h
  rw [h1, Nat.zero_add]; exact h2
theorem fits_lt {kp : Kp} {j : Nat} (h : fits kp j = true) : j < 4 ^ kp.k := Nat.le_of_ble_eq_true h

theorem getD_set {arr : Array Value} {i : Nat} (v : Value) (hi : i < arr.size) (j : Nat) : (arr.setIfInBounds i v).getD j undef = if j = i then v else arr.getD j undef := by
  by_cases h : j = i
  · subst h; simp [Array.getD, hi]
  · rw [if_neg h]
    simp only [Array.getD_eq_getD_getElem?]
    rw [Array.getElem?_setIfInBounds_ne (Ne.symm h)]

theorem TR.put {T : Tr AV} {arr : Array Value} {i j : Nat} {x : AV} {v : Value} (h : TR w c kp T arr) (hv : VR w c x v) (hi : i < arr.size) (hp : posIn kp.l i = some j) (hf : fits kp j = true) :
    TR w c kp (Tr.put (.leaf x) (path kp.k j []) T) (arr.setIfInBounds i v) := fun i' j' hp' hf' => by
  rw [getD_set v hi]
  by_cases e : i' = i
  · subst e
    rw [hp] at hp'; injection hp' with hp'; subst hp'
    rw [if_pos rfl]
    unfold getP
    rw [get_put_same]
    exact hv
  · rw [if_neg e]
    have hne : j ≠ j' := fun e' => by
      subst e'
      have h1 := posIn_some hp
      have h2 := posIn_some hp'
      rw [h1] at h2; injection h2 with h2
      exact e h2.symm
    unfold getP
    rw [get_put_ne _ _ _ _ (by simp [path_length]) (fun e' => hne (path_inj (fits_lt hf) (fits_lt hf') e'))]
    exact h i' j' hp' hf'
theorem TR.other {T : Tr AV} {arr : Array Value} {i : Nat} {v : Value} (h : TR w c kp T arr) (hi : i < arr.size) (hp : posIn kp.l i = none) : TR w c kp T (arr.setIfInBounds i v) := fun i' j' hp' hf' => by
  rw [getD_set v hi, if_neg (fun e => by subst e; rw [hp] at hp'; cases hp')]
  exact h i' j' hp' hf'

theorem AR.put (hA : AR w c n kp R T a) {d : Option Tmp} {x : AV} {v : Value} (hv : VR w c x v) {k : Rl → Tr AV → Res} {e : AE} {T' : Tr AV} (h : (putD kp n d).f x R T k = .go e T' H') :
    ∃ R1 T1, k R1 T1 = .go e T' H' ∧ AR w c n kp R1 T1 (a.put d v) := by
  cases d with
  | none => exact ⟨R, T, h, hA⟩
  | some i =>
    unfold putD at h
    simp only at h
    cases hin : Nat.ble (Nat.succ i) n with
    | false => rw [hin] at h; cases h
    | true =>
      rw [hin] at h
      have hi : i < a.tmps.size := by rw [hA.size]; exact Nat.le_of_ble_eq_true hin
      cases hp : posIn kp.l i with
      | none =>
        rw [hp] at h
        refine ⟨(i, x) :: R, T, h, ⟨by simp [Act.put, hA.size], hA.tr.other hi hp, fun i' hp' => ?_⟩⟩
        show VR w c (look i' ((i, x) :: R)) ((a.tmps.setIfInBounds i v).getD i' undef)
        rw [getD_set v hi]
        show VR w c (cnd (Nat.beq i i') x (look i' R)) _
        by_cases e : i' = i
        · subst e; rw [if_pos rfl, Nat.beq_refl]; exact hv
        · rw [if_neg e]
          have : Nat.beq i i' = false := by
            cases hb : Nat.beq i i' with
            | false => rfl
            | true => exact absurd (Nat.eq_of_beq_eq_true hb).symm e
          rw [this]; exact hA.rl i' hp'
      | some j =>
        rw [hp] at h
        simp only at h
        cases hf : fits kp j with
        | false => rw [hf] at h; cases h
        | true =>
          rw [hf] at h
          refine ⟨R, _, h, ⟨by simp [Act.put, hA.size], hA.tr.put hv hi hp hf, fun i' hp' => ?_⟩⟩
          show VR w c (look i' R) ((a.tmps.setIfInBounds i v).getD i' undef)
          rw [getD_set v hi, if_neg (fun e => by subst e; rw [hp] at hp'; cases hp')]
          exact hA.rl i' hp'

theorem AR.step (h0 : HR kps w c H) (h : Stp kps w c H w' c' H') (hA : AR w c n kp R T a) : AR w' c' n kp R T a :=
  ⟨hA.size, hA.tr.step h0 h, fun i hi => (hA.rl i hi).step h0 h⟩

/-- The marks among the deferred calls. -/
structure Marks (base : Nat) (w : World) (ds : List Deferred) : Prop where
  all : ∀ d ∈ ds, ∃ r, d = { target := .collected r, args := #[] } ∧ base ≤ r ∧ w.heap[r]? = some (.deferred (some []))
  nodup : ds.Nodup
theorem Marks.step {base : Nat} {ds : List Deferred} (h0 : HR kps w c H) (h : Stp kps w c H w' c' H') (hm : Marks base w ds) : Marks base w' ds :=
  ⟨fun d hd => (by
    obtain ⟨r, h1, h2, h3⟩ := hm.all d hd
    refine ⟨r, h1, h2, ?_⟩
    rw [h.frame r (Array.getElem?_eq_some_iff.1 h3).1 fun b x hb hx e => ?_]
    · exact h3
    · have hb := h0.blk b x hb hx
      cases x with
      | cells e' sz rows => obtain ⟨_, _, arr, e'', g, _⟩ := hb; rw [e, h3] at g; cases g
      | map es => obtain ⟨ents, clock, g, _⟩ := hb; rw [e, h3] at g; cases g
      | loop fn T n ps as body st pend => obtain ⟨tmps, fn', d', g, _⟩ := hb; rw [e, h3] at g; cases g), hm.nodup⟩

/-- Fences in which the code is walked. -/
inductive Wd : Fence → Prop
  | wide : Wd Fence.wide
  | round (l : Nat) : Wd (Fence.wide.inRound l)
theorem Wd.fn {F : Fence} (h : Wd F) (f : FuncId) : F.fn f := by cases h <;> trivial
theorem Wd.depth {F : Fence} (h : Wd F) : F.depth = none := by cases h <;> rfl
theorem Wd.calls {F : Fence} (h : Wd F) {k m : Nat} {f : FuncId} {args : Array Value} {w : World} {R : Ending → World → Prop} (hc : CallsIn Fence.wide k P f args w R) : CallsIn F m P f args w R := by
  have hc' : CallsIn Fence.wide m P f args w R := (callsIn_wide).2 (callsIn_wide.1 hc)
  cases h with
  | wide => exact hc'
  | round l => exact hc'

/-- Arguments. -/
def ArgsR (w : World) (c : Cx) (args : List AV) (vals : Array Value) : Prop := args.length = vals.size ∧ ∀ (i : Nat) (u : AV) (v : Value), args[i]? = some u → vals[i]? = some v → VR w c u v
theorem ArgsR.app {l m : List AV} {x y : Array Value} (h : ArgsR w c l x) (k : ArgsR w c m y) : ArgsR w c (app l m) (x ++ y) := by
  rw [app_eq]
  refine ⟨by simp [h.1, k.1], fun i u v hu hv => ?_⟩
  by_cases hi : i < l.length
  · rw [List.getElem?_append_left hi] at hu
    rw [Array.getElem?_append_left (by rw [← h.1]; exact hi)] at hv
    exact h.2 i u v hu hv
  · rw [List.getElem?_append_right (by omega)] at hu
    rw [Array.getElem?_append_right (by rw [← h.1]; omega), ← h.1] at hv
    exact k.2 _ u v hu hv

/-- What a recursion says of calls is so. -/
def RecOk (kps : FuncId → Kp) (P : Program) (rec : Rec) : Prop :=
  ∀ (f : FuncId) (args : List AV) (vals : Array Value) (w : World) (c : Cx) (H : AH) (v : AV) (H' : AH), HR kps w c H → ArgsR w c args vals → rec f args H = .ok v H' →
    (callFunc f vals).run P w = .ok (.enter f vals) w ∧ CallsIn Fence.wide 0 P f vals w fun e w' => ∃ u c', e = .returned u ∧ VR w' c' v u ∧ Stp kps w c H w' c' H'

def exitOf : AE → Exit
  | .normal => .normal
  | .exit id => .exit id
  | .ret => .ret

/-- What the evaluator says of code is so. -/
def CodeOk (kps : FuncId → Kp) (P : Program) (F : Fence) (kp : Kp) (n : Nat) (cd : Code) (ops : Ops) : Prop :=
  ∀ (rec : Rec), RecOk kps P rec → ∀ (base : Nat) (w : World) (c : Cx) (H : AH) (T : Tr AV) (a : Act) (e : AE) (T' : Tr AV) (H' : AH), HR kps w c H → a.tmps.size = n → TR w c kp T a.tmps → Marks base w a.defers → base ≤ w.heap.size →
    ops rec T H = .go e T' H' → ∀ Q : Exit → Act → World → Prop,
      (∀ a' w' c', a'.tmps.size = n → TR w' c' kp T' a'.tmps → Marks base w' a'.defers → Stp kps w c H w' c' H' → Q (exitOf e) a' w') → cd.wpIn F 0 P Q a w

/-- .. of code of rounds. -/
def RunOk (kps : FuncId → Kp) (P : Program) (run : Run) : Prop := ∀ (F : Fence), Wd F → ∀ (fn : FuncId) (n : Nat) (cd : Code), CodeOk kps P F (kps fn) n cd (run fn n cd).f

/-! ### One operation -/
/-- What comes behind an operation. -/
abbrev Then (kps : FuncId → Kp) (n : Nat) (kp : Kp) (w : World) (c : Cx) (H : AH) (a : Act) (k : Nr) (e : AE) (T' : Tr AV) (H' : AH) (next : Act → World → Prop) : Prop :=
  ∀ R1 T1 H1 w1 c1 a1, k R1 T1 H1 = .go e T' H' → AR w1 c1 n kp R1 T1 a1 → Stp kps w c H w1 c1 H1 → a1.defers = a.defers → next a1 w1
theorem put_defers (a : Act) (d : Option Tmp) (v : Value) : (a.put d v).defers = a.defers := by cases d <;> rfl

theorem sb_go {α : Type} {x : Option α} {f : α → Res} {e : AE} {T : Tr AV} {H : AH} (h : sb x f = .go e T H) : ∃ y, x = some y ∧ f y = .go e T H := by cases x with | none => cases h | some y => exact ⟨y, rfl, h⟩
theorem vb_go {x : RV} {f : AV → AH → Res} {e : AE} {T : Tr AV} {H : AH} (h : vb x f = .go e T H) : ∃ v H1, x = .ok v H1 ∧ f v H1 = .go e T H := by cases x with | no => cases h | ok v H1 => exact ⟨v, H1, rfl, h⟩

theorem not_defer {o : Oper} (h : clsOf t o.op ≠ .pure) : ∀ d, o.op ≠ .defer d := fun d hd => h (by rw [hd]; rfl)

/-- An operation that comes to a value. -/
theorem wpIn_value {F : Fence} (hF : Wd F) {o : Oper} (hd : ∀ d, o.op ≠ .defer d) {v : Value} {next : Act → World → Prop} {Q : Exit → Act → World → Prop} (hr : (execOp a.eval o).run P w = .ok (.value v) w') (h : next (a.put o.dst v) w') : o.wpIn F 0 P a w next Q := by
  refine ⟨fun f _ => hF.fn f, ?_⟩
  rw [Oper.semAt_eq _ _ _ hd, hr]
  exact h
theorem wpIn_skipped {F : Fence} (hF : Wd F) {o : Oper} (hd : ∀ d, o.op ≠ .defer d) {next : Act → World → Prop} {Q : Exit → Act → World → Prop} (hr : (execOp a.eval o).run P w = .ok .skip w') (h : next (a.put o.dst undef) w') : o.wpIn F 0 P a w next Q := by
  refine ⟨fun f _ => hF.fn f, ?_⟩
  rw [Oper.semAt_eq _ _ _ hd, hr]
  exact h

theorem pure_step {F : Fence} (hF : Wd F) (ht : t.Ok P) (hh : HR kps w c H) (hA : AR w c n kp R T a) {o : Oper} {k : Nr} {rec : Rec} {e : AE} {T' : Tr AV} (h : pureC (putD kp n o.dst).f (opPure t kp o.op).f rec k R T H = .go e T' H')
    {next : Act → World → Prop} {Q : Exit → Act → World → Prop} (hn : Then kps n kp w c H a k e T' H' next) : o.wpIn F 0 P a w next Q := by
  obtain ⟨x, hx, h2⟩ := sb_go h
  obtain ⟨v, hr, hv⟩ := opPure_sound ht hA hx
  obtain ⟨R1, T1, h3, hA1⟩ := hA.put hv h2
  have hd : ∀ d, o.op ≠ .defer d := fun d hd => by rw [hd] at hx; cases hx
  exact wpIn_value hF hd hr (hn R1 T1 H w c _ h3 hA1 (Stp.refl hh) (put_defers _ _ _))
theorem read_step {F : Fence} (hF : Wd F) (ht : t.Ok P) (hh : HR kps w c H) (hA : AR w c n kp R T a) {o : Oper} {k : Nr} {rec : Rec} {e : AE} {T' : Tr AV} (h : readC (putD kp n o.dst).f (opRead t kp o.op).f rec k R T H = .go e T' H')
    {next : Act → World → Prop} {Q : Exit → Act → World → Prop} (hn : Then kps n kp w c H a k e T' H' next) : o.wpIn F 0 P a w next Q := by
  obtain ⟨x, hx, h2⟩ := sb_go h
  obtain ⟨v, hr, hv⟩ := opRead_sound ht hh hA hx
  obtain ⟨R1, T1, h3, hA1⟩ := hA.put hv h2
  have hd : ∀ d, o.op ≠ .defer d := fun d hd => by rw [hd] at hx; cases hx
  exact wpIn_value hF hd hr (hn R1 T1 H w c _ h3 hA1 (Stp.refl hh) (put_defers _ _ _))
theorem new_step {F : Fence} (hF : Wd F) (ht : t.Ok P) (hh : HR kps w c H) (hA : AR w c n kp R T a) {o : Oper} {k : Nr} {rec : Rec} {e : AE} {T' : Tr AV} (h : writeC (putD kp n o.dst).f (newF (opNew t kp o.op).f) rec k R T H = .go e T' H')
    {next : Act → World → Prop} {Q : Exit → Act → World → Prop} (hn : Then kps n kp w c H a k e T' H' next) : o.wpIn F 0 P a w next Q := by
  obtain ⟨x, H1, hx, h2⟩ := vb_go h
  obtain ⟨p, hp, h3⟩ := rb_ok hx
  obtain ⟨hm, h4⟩ := AH.new_ok h3
  injection h4 with h4 h5
  obtain ⟨v, w1, c1, hr, hv, hlay⟩ := opNew_sound ht hh hA (hh.free hm) hp
  have hst := hlay.stp (Stp.refl hh) (Nat.le_refl _) (hh.free hm)
  subst h4; subst h5
  obtain ⟨R1, T1, h6, hA1⟩ := (hA.step hh hst).put hv h2
  have hd : ∀ d, o.op ≠ .defer d := fun d hd => by rw [hd] at hp; cases hp
  exact wpIn_value hF hd hr (hn R1 T1 _ w1 c1 _ h6 hA1 hst (put_defers _ _ _))
theorem write_step {F : Fence} (hF : Wd F) (ht : t.Ok P) (hh : HR kps w c H) (hA : AR w c n kp R T a) {o : Oper} {k : Nr} {rec : Rec} {e : AE} {T' : Tr AV} (h : writeC (putD kp n o.dst).f (opWrite t kp o.op).f rec k R T H = .go e T' H')
    {next : Act → World → Prop} {Q : Exit → Act → World → Prop} (hn : Then kps n kp w c H a k e T' H' next) : o.wpIn F 0 P a w next Q := by
  obtain ⟨x, H1, hx, h2⟩ := vb_go h
  obtain ⟨v, w1, c1, hr, hv, hst⟩ := opWrite_sound ht hh hA hx
  obtain ⟨R1, T1, h6, hA1⟩ := (hA.step hh hst).put hv h2
  have hd : ∀ d, o.op ≠ .defer d := fun d hd => by rw [hd] at hx; cases hx
  have hnx := hn R1 T1 _ w1 c1 _ h6 hA1 hst (put_defers _ _ _)
  rcases hr with hr | ⟨hr, rfl⟩
  · exact wpIn_value hF hd hr hnx
  · exact wpIn_skipped hF hd hr hnx
end
end Go.Drip

/-
Calls, rounds, operations one behind another.
-/
set_option linter.unusedVariables false
set_option linter.unusedSimpArgs false
namespace Go.Drip
section
variable {P : Program} {w w' : World} {c c' : Cx} {n : Nat} {kp : Kp} {R : Rl} {T : Tr AV} {a : Act} {t : Tab} {kps : FuncId → Kp} {H H' : AH}

theorem onFn_ok {x : AV} {f : Fn → List AV → List AV → RV} {r : AV} (h : x.onFn .no f = .ok r H) : ∃ g p q, x = ⟨.x (.fn g p q)⟩ ∧ f g p q = .ok r H := by
  obtain ⟨x⟩ := x; cases x <;> first | (rename_i w; cases w <;> first | exact ⟨_, _, _, rfl, h⟩ | cases h) | cases h
theorem onFn_go {x : AV} {f : Fn → List AV → List AV → Res} {e : AE} (h : x.onFn .no f = .go e T H) : ∃ g p q, x = ⟨.x (.fn g p q)⟩ ∧ f g p q = .go e T H := by
  obtain ⟨x⟩ := x; cases x <;> first | (rename_i w; cases w <;> first | exact ⟨_, _, _, rfl, h⟩ | cases h) | cases h

theorem args_sound (hA : AR w c n kp R T a) (l : Array Operand) : ArgsR w c ((evs kp l.toList).f R T) (l.map a.eval) := by
  obtain ⟨h1, h2⟩ := evs_sound hA l.toList
  exact ⟨by rw [h1]; simp, fun i u v hu hv => h2 i u v hu (by simpa using hv)⟩

/-! ### Loops' records -/
theorem getLoop_run {l : Nat} {r : Loop} (h : w.heap[l]? = some (.loop r)) : (Instr.getLoop l).run P w = .ok r w := by
  simp [Instr.getLoop, getObj, Sem.run, h]
/-- A loop's record is changed. -/
def World.withObj (w : World) (r : Nat) (o : Obj) : World := { w with heap := w.heap.setIfInBounds r o }
theorem setObj_run {r : Nat} {o0 : Obj} (h : w.heap[r]? = some o0) (hno : ∀ a e f, o0 ≠ .cells a e f) (o : Obj) : (setObj r o).run P w = .ok () (World.withObj w r o) := by
  simp only [setObj, Sem.run, h, World.withObj]
theorem setLoop_run {r : Nat} {L : Loop} (h : w.heap[r]? = some (.loop L)) (o : Obj) : (setObj r o).run P w = .ok () (World.withObj w r o) := setObj_run h (fun _ _ _ h => by cases h) o
theorem withObj_facts {r : Nat} {o0 : Obj} (h : w.heap[r]? = some o0) (o : Obj) : Same w (World.withObj w r o) ∧ (World.withObj w r o).heap.size = w.heap.size ∧ (World.withObj w r o).heap[r]? = some o ∧ ∀ j, j ≠ r → (World.withObj w r o).heap[j]? = w.heap[j]? := by
  have hlt := (Array.getElem?_eq_some_iff.1 h).1
  exact ⟨⟨rfl, rfl, rfl, by simp [World.withObj]⟩, by simp [World.withObj], by simp [World.withObj, hlt], fun j hj => by simp [World.withObj, Ne.symm hj]⟩

theorem setLoop_sound (hh : HR kps w c H) {l : Nat} (hl : c.D l) {f : LoopState → Option Code → Option (LoopState × Option Code)} (h : setLoop l H f = some H') :
    ∃ (r : Loop) (p : LoopState × Option Code), w.heap[c.blk l]? = some (.loop r) ∧ f r.state r.pending = some p ∧ Stp kps w c H (World.withObj w (c.blk l) (.loop { r with state := p.1, pending := p.2 })) c H' := by
  unfold setLoop at h
  split at h
  · rename_i fn tr m ps as body st pend hg
    obtain ⟨p, hp, h2⟩ := ob_some h
    obtain ⟨hprot, rfl⟩ := AH.set_some h2
    obtain ⟨tmps, fn', d, g1, g2, g3⟩ := hh.blk l _ hl hg
    obtain ⟨f1, f2, f3, f4⟩ := withObj_facts g1 (.loop { state := p.1, pending := p.2, fn := fn', tmps := tmps, params := ps, assign := as, body := body, defers := d })
    refine ⟨_, p, g1, hp, stp_set hh hl hg hprot f1 f2 f4 fun y hy => ?_⟩
    injection hy with hy; subst hy
    refine ⟨tmps, fn', d, f3, g2, g3.mono (Ext.refl c) fun j hj => f4 j fun e => ?_⟩
    exact hh.own l _ hl hg (e ▸ hj)
  · cases h

theorem putK_sound {i : Nat} {x : AV} {v : Value} {T1 : Tr AV} {arr : Array Value} (hs : arr.size = n) (hT : TR w c kp T arr) (hv : VR w c x v) (h : (putK kp n i).f x T = some T1) : i < n ∧ TR w c kp T1 (arr.setIfInBounds i v) := by
  unfold putK at h
  cases hin : Nat.ble (Nat.succ i) n with
  | false => rw [hin] at h; cases h
  | true =>
    rw [hin] at h
    have hi : i < n := Nat.le_of_ble_eq_true hin
    refine ⟨hi, ?_⟩
    cases hp : posIn kp.l i with
    | none =>
      rw [hp] at h
      injection h with h; subst h
      exact hT.other (by omega) hp
    | some j =>
      rw [hp] at h
      simp only at h
      cases hf : fits kp j with
      | false => rw [hf] at h; cases h
      | true =>
        rw [hf] at h
        injection h with h; subst h
        exact hT.put hv (by omega) hp hf
theorem fillPs_sound : ∀ (ps : List Tmp) (vs : List AV) (vals : List Value) (T T1 : Tr AV) (arr : Array Value), arr.size = n → TR w c kp T arr → vs.length = vals.length → (∀ (i : Nat) (u : AV) (v : Value), vs[i]? = some u → vals[i]? = some v → VR w c u v) →
    fillPs kp n ps vs T = some T1 → ps.length = vs.length ∧ TR w c kp T1 ((ps.zip vals).foldl (fun tmps (p : Tmp × Value) => tmps.setIfInBounds p.1 p.2) arr) ∧ ((ps.zip vals).foldl (fun tmps (p : Tmp × Value) => tmps.setIfInBounds p.1 p.2) arr).size = n
  | [], [], vals, T, T1, arr, hs, hT, hl, hv, h => by injection h with h; subst h; exact ⟨rfl, hT, hs⟩
  | [], _ :: _, vals, T, T1, arr, hs, hT, hl, hv, h => by cases h
  | _ :: _, [], vals, T, T1, arr, hs, hT, hl, hv, h => by cases h
  | p :: ps, u :: vs, [], T, T1, arr, hs, hT, hl, hv, h => by cases hl
  | p :: ps, u :: vs, v :: vals, T, T1, arr, hs, hT, hl, hv, h => by
    obtain ⟨T2, h2, h3⟩ := ob_some (h : ob ((putK kp n p).f u T) (fillPs kp n ps vs) = some T1)
    obtain ⟨_, hT2⟩ := putK_sound hs hT (hv 0 u v rfl rfl) h2
    obtain ⟨g1, g2, g3⟩ := fillPs_sound ps vs vals T2 T1 (arr.setIfInBounds p v) (by simp [hs]) hT2 (by simpa using hl) (fun i u v hu hv' => hv (i + 1) u v (by simpa using hu) (by simpa using hv')) h3
    exact ⟨by simp [g1], g2, g3⟩

theorem no_marks (base : Nat) (w : World) : Marks base w [] := ⟨fun d hd => (by cases hd), List.nodup_nil⟩

theorem round_sound {run : Run} {rec : Rec} (hrun : RunOk kps P run) (hrec : RecOk kps P rec) (hh : HR kps w c H) {l : Nat} (hl : c.D l) {args : List AV} {vals : Array Value} (hargs : ArgsR w c args vals) {v : AV} (h : roundF kps run rec l args H = .ok v H') :
    ∃ f tmps as body, (Instr.yield (c.blk l) vals).run P w = .ok (.round (c.blk l) f tmps as body) w ∧ RoundIn Fence.wide 0 P (c.blk l) f tmps as body w fun e w' => ∃ u c', e = .returned u ∧ VR w' c' v u ∧ Stp kps w c H w' c' H' := by
  unfold roundF at h
  split at h
  · rename_i fn tr m ps as body st pend hg
    obtain ⟨T1, hT1, h2⟩ := rb_ok h
    obtain ⟨tmps, fn', d, g1, g2, g3⟩ := hh.blk l _ hl hg
    obtain ⟨p1, p2, p3⟩ := fillPs_sound ps.toList args vals.toList tr T1 tmps g2 g3 (by rw [hargs.1]; simp) (fun i u v hu hv => hargs.2 i u v hu (by simpa using hv)) hT1
    have hfold : (ps.zip vals).foldl (fun tmps (x : Tmp × Value) => tmps.setIfInBounds x.1 x.2) tmps = (ps.toList.zip vals.toList).foldl (fun tmps (p : Tmp × Value) => tmps.setIfInBounds p.1 p.2) tmps := by
      rw [← Array.foldl_toList, Array.toList_zip]
    refine ⟨fn', (ps.zip vals).foldl (fun tmps (x : Tmp × Value) => tmps.setIfInBounds x.1 x.2) tmps, as, body, ?_, roundIn_of_wpIn (F := Fence.wide) trivial ?_⟩
    · have hsz : vals.size = ps.size := by rw [← hargs.1, ← p1]; simp
      simp [Instr.yield, getLoop_run g1, hsz]
    · split at h2
      · rename_i T2 H2 hr1
        obtain ⟨H3, hs3, h4⟩ := rb_ok h2
        refine hrun _ (Wd.round (c.blk l)) fn m as rec hrec w.heap.size w c H T1 _ _ T2 H2 hh (by rw [hfold]; exact p3) (by rw [hfold]; exact p2) (no_marks _ _) (Nat.le_refl _) hr1 _ fun a1 w1 c1 hsz1 hT hM1 hst1 => ?_
        have hl1 : c1.D l := hst1.ext.D _ hl
        have hb1 : c1.blk l = c.blk l := hst1.ext.blk l hl
        obtain ⟨r, p, k1, k2, hst3⟩ := setLoop_sound hst1.hr hl1 hs3
        rw [hb1] at k1 hst3
        have hready : r.state = .ready ∧ p = (.busy, r.pending) := by
          revert k2
          cases r.state <;> intro k2 <;> first | (injection k2 with k2; exact ⟨rfl, k2.symm⟩) | cases k2
        obtain ⟨hr1', rfl⟩ := hready
        refine ⟨World.withObj w1 (c.blk l) (.loop { r with state := .busy, pending := r.pending }), ?_, ?_⟩
        · simp [Instr.beginRound, getLoop_run k1, setLoop_run k1, hr1']
        · have hst13 := hst1.trans hst3
          unfold roundEnd at h4
          have fin : ∀ (e2 : AE) (T4 : Tr AV) (H4 : AH) (jump : Option Code) (b : Bool), (run fn m body).f rec T2 H3 = .go e2 T4 H4 → (∀ a' w'' , (∃ v w3, (Instr.endRound (c.blk l) jump).run P w'' = .ok v w3 ∧ (∃ u c', Ending.returned v = .returned u ∧ VR w3 c' ⟨.bool b⟩ u ∧ Stp kps w c H w3 c' H')) →
              roundPost P (c.blk l) (fun e w' => ∃ u c', e = .returned u ∧ VR w' c' ⟨.bool b⟩ u ∧ Stp kps w c H w' c' H') (exitOf e2) a' w'') → b = jump.isNone →
              rb (setLoop l H4 fun _ _ => some (if jump.isNone then .ready else .done, jump)) (fun H => .ok ⟨.bool b⟩ H) = .ok v H' →
              body.wpIn (Fence.wide.inRound (c.blk l)) 0 P (roundPost P (c.blk l) fun e w' => ∃ u c', e = .returned u ∧ VR w' c' v u ∧ Stp kps w c H w' c' H') a1 (World.withObj w1 (c.blk l) (.loop { r with state := .busy, pending := r.pending })) := fun e2 T4 H4 jump b hr2 hpost hb h5 => by
            obtain ⟨H5, hs5, h6⟩ := rb_ok h5
            injection h6 with h6 h7
            subst h6; subst h7
            refine hrun _ (Wd.round (c.blk l)) fn m body rec hrec w.heap.size _ c1 H3 T2 a1 _ T4 H4 hst3.hr hsz1 (hT.step hst1.hr hst3) (hM1.step hst1.hr hst3) (Nat.le_trans hst1.same.size hst3.same.size) hr2 _ fun a2 w2 c2 hsz2 hT2 hM2 hst4 => ?_
            have hl2 : c2.D l := hst4.ext.D _ hl1
            have hb2 : c2.blk l = c.blk l := (hst4.ext.blk l hl1).trans hb1
            obtain ⟨r2, p2', k3, k4, hst5⟩ := setLoop_sound hst4.hr hl2 hs5
            injection k4 with k4; subst k4
            rw [hb2] at k3 hst5
            refine hpost a2 w2 ⟨.bool jump.isNone, _, ?_, .bool jump.isNone, c2, rfl, by rw [hb]; exact .bool _, (hst13.trans hst4).trans hst5⟩
            simp [Instr.endRound, getLoop_run k3, setLoop_run k3]
          split at h4
          · rename_i hr2; exact fin .normal _ _ none true hr2 (fun a' w'' h => h) rfl h4
          · rename_i hr2; exact fin .ret _ _ (some .ret) false hr2 (fun a' w'' h => h) rfl h4
          · rename_i id _ _ hr2; exact fin (.exit id) _ _ (some (.exit id)) false hr2 (fun a' w'' h => h) rfl h4
          · cases h4
      · cases h2
  · cases h
end
end Go.Drip

/-
Calls; operations one behind another.
-/
set_option linter.unusedVariables false
set_option linter.unusedSimpArgs false
namespace Go.Drip
section
variable {P : Program} {w w' : World} {c c' : Cx} {n : Nat} {kp : Kp} {R : Rl} {T : Tr AV} {a : Act} {t : Tab} {kps : FuncId → Kp} {H H' : AH}

/-- What an operation comes to. -/
inductive OpTo (P : Program) (a : Act) (w : World) (o : Oper) (X : Value → World → Prop) : Prop
  | value (v : Value) (w' : World) (hr : (execOp a.eval o).run P w = .ok (.value v) w') (hx : X v w')
  | skip (w' : World) (hr : (execOp a.eval o).run P w = .ok .skip w') (hx : X undef w')
  | enter (f : FuncId) (args : Array Value) (hr : (execOp a.eval o).run P w = .ok (.enter f args) w) (hc : CallsIn Fence.wide 0 P f args w fun e w' => ∃ u, e = .returned u ∧ X u w')
  | round (l : Nat) (f : FuncId) (tmps : Array Value) (as body : Code) (hr : (execOp a.eval o).run P w = .ok (.round l f tmps as body) w) (hc : RoundIn Fence.wide 0 P l f tmps as body w fun e w' => ∃ u, e = .returned u ∧ X u w')
theorem OpTo.wp {F : Fence} (hF : Wd F) {o : Oper} (hd : ∀ d, o.op ≠ .defer d) {X : Value → World → Prop} (h : OpTo P a w o X) {next : Act → World → Prop} {Q : Exit → Act → World → Prop} (hn : ∀ u w', X u w' → next (a.put o.dst u) w') : o.wpIn F 0 P a w next Q := by
  refine ⟨fun f _ => hF.fn f, ?_⟩
  rw [Oper.semAt_eq _ _ _ hd]
  cases h with
  | value v w' hr hx => rw [hr]; exact hn v w' hx
  | skip w' hr hx => rw [hr]; exact hn _ w' hx
  | enter f args hr hc =>
    rw [hr, Oper.uponIn_enter]
    refine ⟨fun hs => (by rw [hF.depth] at hs; cases hs), hF.calls (hc.mono fun e w' he => ?_)⟩
    obtain ⟨u, rfl, hx⟩ := he
    exact hn u w' hx
  | round l f tmps as body hr hc =>
    rw [hr, Oper.uponIn_round]
    refine ⟨fun hs => (by rw [hF.depth] at hs; cases hs), ?_⟩
    have hc' := hc.mono (R' := fun e w' => match e, w' with
      | .returned v, w'' => next (a.put o.dst v) w''
      | .panicked chain, w'' => Q (.panic chain) a w''
      | .outgrown, _ => LetsOut Q) fun e w' he => by
        obtain ⟨u, rfl, hx⟩ := he
        exact hn u w' hx
    cases hF with
    | wide => exact hc'
    | round l => exact hc'
theorem OpTo.mono {o : Oper} {X Y : Value → World → Prop} (h : OpTo P a w o X) (hxy : ∀ u w', X u w' → Y u w') : OpTo P a w o Y := by
  cases h with
  | value v w' hr hx => exact .value v w' hr (hxy _ _ hx)
  | skip w' hr hx => exact .skip w' hr (hxy _ _ hx)
  | enter f args hr hc => exact .enter f args hr (hc.mono fun e w' ⟨u, h1, h2⟩ => ⟨u, h1, hxy _ _ h2⟩)
  | round l f tmps as body hr hc => exact .round l f tmps as body hr (hc.mono fun e w' ⟨u, h1, h2⟩ => ⟨u, h1, hxy _ _ h2⟩)
theorem OpTo.ex {o : Oper} {X : Value → World → Prop} (h : OpTo P a w o X) : ∃ u w', X u w' := by
  cases h with
  | value v w' hr hx => exact ⟨v, w', hx⟩
  | skip w' hr hx => exact ⟨_, w', hx⟩
  | enter f args hr hc =>
    obtain ⟨e, w', fr, ⟨u, _, hx⟩, _⟩ := hc.2 [] (room_wide _)
    exact ⟨u, w', hx⟩
  | round l f tmps as body hr hc =>
    obtain ⟨e, w', ⟨u, _, hx⟩, _⟩ := hc.2 (Frame.enter P f #[] .normal) [] (room_wide _)
    exact ⟨u, w', hx⟩

theorem call_to {run : Run} {rec : Rec} (hrun : RunOk kps P run) (hrec : RecOk kps P rec) (hh : HR kps w c H) (hA : AR w c n kp R T a) {o : Oper} {x : AV} {H1 : AH}
    (hx : (opCall kp kps run o.op).f rec R T H = .ok x H1) {X : Value → World → Prop} (fin : ∀ u w' c', VR w' c' x u → Stp kps w c H w' c' H1 → X u w') : OpTo P a w o X := by
  cases ho : o.op with
  | call cl =>
    rw [ho] at hx
    have hargs := args_sound hA cl.args
    have hval : ∀ f, cl.callee = .value f → calleeF kps run rec ((opd kp f).f R T) ((evs kp cl.args.toList).f R T) H = .ok x H1 → OpTo P a w o X := fun f hcf hx => by
      obtain ⟨g, first, cap, hg, h4⟩ := onFn_ok hx
      have hv := opd_sound hA f
      rw [hg] at hv
      have hres : ∀ fv cv gg, a.eval f = .func gg fv cv → (execOp a.eval o).run P w = (invoke (.fn gg cv) (fv ++ cl.args.map a.eval)).run P w := fun fv cv gg hf => by
        unfold execOp; rw [ho]; simp [resolve, hcf, Deferred.ofValue, hf]
      cases g with
      | func g =>
        generalize hfv : a.eval f = fv at *
        cases hv with
        | fn _ _ _ fv cv hy l1 l2 h1 h2 =>
          have hall : ArgsR w c (app first (app ((evs kp cl.args.toList).f R T) cap)) ((fv ++ cl.args.map a.eval) ++ cv) := by
            rw [Array.append_assoc]
            exact ArgsR.app ⟨l1, h1⟩ (ArgsR.app hargs ⟨l2, h2⟩)
          obtain ⟨hcall, hcin⟩ := hrec g _ _ w c H x H1 hh hall h4
          exact .enter _ _ (by rw [hres _ _ _ rfl]; exact hcall) (hcin.mono fun e w' ⟨u, c', he, hv, hst⟩ => ⟨u, he, fin u w' c' hv hst⟩)
      | yield l =>
        have hnil : app first cap = [] ∧ roundF kps run rec l ((evs kp cl.args.toList).f R T) H = .ok x H1 := by
          change lst (app first cap) _ _ = _ at h4
          cases hac : app first cap with
          | nil => rw [hac] at h4; exact ⟨rfl, h4⟩
          | cons p q => rw [hac] at h4; cases h4
        generalize hfv : a.eval f = fv at *
        cases hv with
        | fn _ _ _ fv cv hy l1 l2 h1 h2 => exact absurd rfl (hy l)
        | yield _ hl =>
          obtain ⟨ff, tmps, as, body, hy, hround⟩ := round_sound hrun hrec hh hl hargs hnil.2
          exact .round _ _ _ _ _ (by rw [hres _ _ _ rfl]; simpa [invoke] using hy) (hround.mono fun e w' ⟨u, c', he, hv, hst⟩ => ⟨u, he, fin u w' c' hv hst⟩)
      | _ => cases h4
    cases hc : cl.callee with
    | value f =>
      cases f with
      | func g =>
        simp only [opCall, callS, hc] at hx
        obtain ⟨hcall, hcin⟩ := hrec g _ _ w c H x H1 hh hargs hx
        refine .enter _ _ ?_ (hcin.mono fun e w' ⟨u, c', he, hv, hst⟩ => ⟨u, he, fin u w' c' hv hst⟩)
        have : a.eval (.func g) = .func (.func g) #[] #[] := rfl
        unfold execOp; rw [ho]; simp [resolve, hc, Deferred.ofValue, this, invoke]
        exact hcall
      | tmp i => simp only [opCall, callS, hc] at hx; exact hval _ hc hx
      | const v => simp only [opCall, callS, hc] at hx; exact hval _ hc hx
      | global g => simp only [opCall, callS, hc] at hx; exact hval _ hc hx
    | builtin b => simp only [opCall, callS, hc] at hx; cases hx
    | invoke y m => simp only [opCall, callS, hc] at hx; cases hx
  | _ => rw [ho] at hx; cases hx

theorem call_nodefer {run : Run} {rec : Rec} {o : Oper} {x : AV} {H1 : AH} (hx : (opCall kp kps run o.op).f rec R T H = .ok x H1) : ∀ d, o.op ≠ .defer d := fun d hd => by rw [hd] at hx; cases hx
theorem call_step {F : Fence} (hF : Wd F) {run : Run} {rec : Rec} (hrun : RunOk kps P run) (hrec : RecOk kps P rec) (hh : HR kps w c H) (hA : AR w c n kp R T a) {o : Oper} {k : Nr} {e : AE} {T' : Tr AV}
    (h : callC (putD kp n o.dst).f (opCall kp kps run o.op).f rec k R T H = .go e T' H') {next : Act → World → Prop} {Q : Exit → Act → World → Prop} (hn : Then kps n kp w c H a k e T' H' next) : o.wpIn F 0 P a w next Q := by
  obtain ⟨x, H1, hx, h2⟩ := vb_go h
  refine OpTo.wp hF (call_nodefer hx) (call_to (X := fun u w' => next (a.put o.dst u) w') hrun hrec hh hA hx fun u w' c' hv hst => ?_) fun u w' h => h
  obtain ⟨R1, T1, h6, hA1⟩ := (hA.step hh hst).put hv h2
  exact hn R1 T1 _ w' c' _ h6 hA1 hst (put_defers _ _ _)

theorem one_step {F : Fence} (hF : Wd F) (ht : t.Ok P) {run : Run} {rec : Rec} (hrun : RunOk kps P run) (hrec : RecOk kps P rec) (hh : HR kps w c H) (hA : AR w c n kp R T a) {o : Oper} {k : Nr} {e : AE} {T' : Tr AV}
    (h : (oneOp t kp kps run n o).f rec k R T H = .go e T' H') {next : Act → World → Prop} {Q : Exit → Act → World → Prop} (hn : Then kps n kp w c H a k e T' H' next) : o.wpIn F 0 P a w next Q := by
  unfold oneOp at h
  split at h
  · exact pure_step (rec := rec) hF ht hh hA h hn
  · exact read_step (rec := rec) hF ht hh hA h hn
  · exact new_step (rec := rec) hF ht hh hA h hn
  · exact write_step (rec := rec) hF ht hh hA h hn
  · exact call_step hF hrun hrec hh hA h hn

/-! ### Guards -/
theorem wanted_sound {want b : Bool} {x : AV} {i : Nat} (hv : VR w c x (a.tmps.getD i undef)) (h : wanted want x = some b) : ((match a.tmps[i]? with | some (.bool b) => some b | _ => none) == some want) = b := by
  have hget : a.tmps[i]? = none ∧ a.tmps.getD i undef = undef ∨ ∃ v, a.tmps[i]? = some v ∧ a.tmps.getD i undef = v := by
    by_cases hi : i < a.tmps.size
    · exact .inr ⟨a.tmps[i], Array.getElem?_eq_getElem hi, by simp [Array.getD, hi]⟩
    · exact .inl ⟨Array.getElem?_eq_none (by omega), by simp [Array.getD, hi]⟩
  rcases onX_cases x with ⟨k, m, rfl⟩ | ⟨u, rfl⟩ | ⟨_, _, _, rfl⟩ | ⟨_, _, _, _, _, rfl⟩ | ⟨cs, rfl⟩ | ⟨u, rfl⟩
  · cases h
  · injection h with h
    rw [boolEq_eq] at h
    have hb := hv.inv_bool
    rcases hget with ⟨_, h2⟩ | ⟨v, h1, h2⟩
    · rw [h2] at hb; cases hb
    · rw [h2] at hb; subst hb
      rw [h1]
      show (some u == some want) = b
      rw [← h]; cases u <;> cases want <;> rfl
  · cases h
  · cases h
  · cases h
  · cases u with
    | und =>
      injection h with h; subst h
      have hu : a.tmps.getD i undef = undef := by generalize a.tmps.getD i undef = z at *; cases hv; rfl
      rcases hget with ⟨h1, _⟩ | ⟨v, h1, h2⟩
      · rw [h1]; rfl
      · rw [h1]; rw [hu] at h2; subst h2; rfl
    | _ => cases h

theorem guard_step {F : Fence} (hF : Wd F) (ht : t.Ok P) {run : Run} {rec : Rec} (hrun : RunOk kps P run) (hrec : RecOk kps P rec) (hh : HR kps w c H) (hA : AR w c n kp R T a) {ops : Array Oper} {o : Oper} {k : Nr} {e : AE} {T' : Tr AV}
    (h : (guardS t kp kps run ops.toList n o).f rec k R T H = .go e T' H') {next : Act → World → Prop} {Q : Exit → Act → World → Prop} (hn : Then kps n kp w c H a k e T' H' next) :
    if Region.wanted o (yielded ops a.tmps) then o.wpIn F 0 P a w next Q else (∀ f, o.about P w a.eval = some f → F.fn f) ∧ next (a.put o.dst undef) w := by
  have skip : skipC (putD kp n o.dst).f rec k R T H = .go e T' H' → (∀ f, o.about P w a.eval = some f → F.fn f) ∧ next (a.put o.dst undef) w := fun h => by
    obtain ⟨R1, T1, h6, hA1⟩ := hA.put .und h
    exact ⟨fun f _ => hF.fn f, hn R1 T1 H w c _ h6 hA1 (Stp.refl hh) (put_defers _ _ _)⟩
  unfold guardS at h
  cases hg : o.guard with
  | none =>
    rw [hg] at h
    have hw : Region.wanted o (yielded ops a.tmps) = true := by simp [Region.wanted, hg]
    rw [hw]
    exact one_step hF ht hrun hrec hh hA h hn
  | some jw =>
    obtain ⟨j, want⟩ := jw
    rw [hg] at h
    simp only at h
    cases hgo : guardOf ops.toList j want with
    | none =>
      rw [hgo] at h
      have hw : Region.wanted o (yielded ops a.tmps) = false := by
        have hy : yielded ops a.tmps j = none := by
          unfold yielded
          cases hj : ops[j]? with
          | none => simp
          | some g =>
            unfold guardOf at hgo
            simp only [nth_eq, Array.getElem?_toList, hj] at hgo
            change (ob g.dst fun d => some (d, want)) = none at hgo
            cases hd : g.dst with
            | none => simp [hd]
            | some d => rw [hd] at hgo; cases hgo
        simp [Region.wanted, hg, hy]
      rw [hw]
      exact skip h
    | some g =>
      rw [hgo] at h
      obtain ⟨gi, hgi, hgd⟩ := ob_some hgo
      obtain ⟨d, hd, hge⟩ := ob_some hgd
      injection hge with hge; subst hge
      simp only [nth_eq, Array.getElem?_toList] at hgi
      obtain ⟨b, hb, h2⟩ := sb_go (h : sb (wanted want ((getS kp d).f R T)) _ = _)
      have hws := wanted_sound (getS_sound hA d) hb
      have hw : Region.wanted o (yielded ops a.tmps) = b := by
        simp only [Region.wanted, hg, yielded, hgi, Option.bind_some, hd]
        exact hws
      rw [hw]
      cases b with
      | true => exact one_step hF ht hrun hrec hh hA h2 hn
      | false => exact skip h2

theorem evOps_sound {F : Fence} (hF : Wd F) (ht : t.Ok P) {run : Run} {rec : Rec} (hrun : RunOk kps P run) (hrec : RecOk kps P rec) {ops : Array Oper} : ∀ (l : List Oper) (w : World) (c : Cx) (H : AH) (R : Rl) (T : Tr AV) (a : Act) (e : AE) (T' : Tr AV) (H' : AH),
    HR kps w c H → AR w c n kp R T a → (evOps t kp kps run n ops.toList l).f rec R T H = .go e T' H' → ∀ Q : Exit → Act → World → Prop,
      (∀ a' w' c', a'.tmps.size = n → TR w' c' kp T' a'.tmps → a'.defers = a.defers → Stp kps w c H w' c' H' → Q (exitOf e) a' w') → wpListIn F 0 P ops Q l a w
  | [], w, c, H, R, T, a, e, T', H', hh, hA, h, Q, hQ => by
    injection h with h1 h2 h3
    subst h1; subst h2; subst h3
    exact hQ a w c hA.size hA.tr rfl (Stp.refl hh)
  | o :: rest, w, c, H, R, T, a, e, T', H', hh, hA, h, Q, hQ => by
    have := guard_step (F := F) hF ht hrun hrec hh hA (o := o) (ops := ops) (k := (evOps t kp kps run n ops.toList rest).f rec) (next := wpListIn F 0 P ops Q rest) (Q := Q) h fun R1 T1 H1 w1 c1 a1 h1 hA1 hst hdf =>
      evOps_sound hF ht hrun hrec rest w1 c1 H1 R1 T1 a1 e T' H' hst.hr hA1 h1 Q fun a' w' c' h2 h3 h4 h5 => hQ a' w' c' h2 h3 (h4.trans hdf) (hst.trans h5)
    exact this
end
end Go.Drip

/-
Code.
-/
set_option linter.unusedVariables false
set_option linter.unusedSimpArgs false
namespace Go.Drip
section
variable {P : Program} {w w' : World} {c c' : Cx} {n : Nat} {kp : Kp} {R : Rl} {T : Tr AV} {a : Act} {t : Tab} {kps : FuncId → Kp} {H H' : AH}

theorem AR.start (hs : a.tmps.size = n) (hT : TR w c kp T a.tmps) : AR w c n kp [] T a := ⟨hs, hT, fun i _ => .any _⟩

theorem onBool_go {x : AV} {f : Bool → Res} {e : AE} (h : x.onBool .no f = .go e T H) : ∃ b, x = ⟨.bool b⟩ ∧ f b = .go e T H := by
  obtain ⟨x⟩ := x; cases x <;> first | exact ⟨_, rfl, h⟩ | cases h

/-- A draw is sound. -/
def DrawOk (kps : FuncId → Kp) (P : Program) (draw : Draw) : Prop :=
  ∀ (F : Fence), Wd F → ∀ (run : Run), RunOk kps P run → ∀ (fn : FuncId) (n id : Nat) (ops : Array Oper), CodeOk kps P F (kps fn) n (.region id ops true) (opsS (draw (kps fn) run n ops.toList)).f

theorem ok_skip {F : Fence} : CodeOk kps P F kp n .skip fun _ T H => .go .normal T H := fun rec hrec base w c H T a e T' H' hh hs hT hM hB h Q hQ => by
  injection h with h1 h2 h3; subst h1; subst h2; subst h3
  exact wpIn_skip (hQ a w c hs hT hM (Stp.refl hh))
theorem ok_exit {F : Fence} {id : Nat} : CodeOk kps P F kp n (.exit id) fun _ T H => .go (.exit id) T H := fun rec hrec base w c H T a e T' H' hh hs hT hM hB h Q hQ => by
  injection h with h1 h2 h3; subst h1; subst h2; subst h3
  exact wpIn_exit (hQ a w c hs hT hM (Stp.refl hh))
theorem ok_ret {F : Fence} : CodeOk kps P F kp n .ret fun _ T H => .go .ret T H := fun rec hrec base w c H T a e T' H' hh hs hT hM hB h Q hQ => by
  injection h with h1 h2 h3; subst h1; subst h2; subst h3
  exact wpIn_ret (hQ a w c hs hT hM (Stp.refl hh))
theorem ok_no {F : Fence} {cd : Code} : CodeOk kps P F kp n cd noO.f := fun rec hrec base w c H T a e T' H' hh hs hT hM hB h => by cases h

theorem ok_region {F : Fence} (hF : Wd F) (ht : t.Ok P) {run : Run} (hrun : RunOk kps P run) {fn : FuncId} {id : Nat} {ops : Array Oper} : CodeOk kps P F (kps fn) n (.region id ops false) (opsS (evOps t (kps fn) kps run n ops.toList ops.toList)).f :=
  fun rec hrec base w c H T a e T' H' hh hs hT hM hB h Q hQ =>
    wpIn_region_list (evOps_sound hF ht hrun hrec ops.toList w c H [] T a e T' H' hh (.start hs hT) h Q fun a' w' c' h1 h2 h3 h4 => hQ a' w' c' h1 h2 (by rw [h3]; exact hM.step hh h4) h4)

theorem ok_seq {F : Fence} {x y : Code} {p q : Box Ops} (hx : CodeOk kps P F kp n x p.f) (hy : CodeOk kps P F kp n y q.f) : CodeOk kps P F kp n (.seq x y) (seqS p q).f := fun rec hrec base w c H T a e T' H' hh hs hT hM hB h Q hQ => by
  change seqF (p.f rec T H) (q.f rec) = _ at h
  cases hp : p.f rec T H with
  | no => rw [hp] at h; cases h
  | go e1 T1 H1 =>
    rw [hp] at h
    refine wpIn_seq (hx rec hrec base w c H T a e1 T1 H1 hh hs hT hM hB hp _ fun a1 w1 c1 s1 t1 m1 st1 => ?_)
    cases e1 with
    | normal =>
      exact hy rec hrec base w1 c1 H1 T1 a1 e T' H' st1.hr s1 t1 m1 (Nat.le_trans hB st1.same.size) h Q fun a' w' c' h1 h2 h3 h4 => hQ a' w' c' h1 h2 h3 (st1.trans h4)
    | exit id => injection h with h1 h2 h3; subst h1; subst h2; subst h3; exact hQ a1 w1 c1 s1 t1 m1 st1
    | ret => injection h with h1 h2 h3; subst h1; subst h2; subst h3; exact hQ a1 w1 c1 s1 t1 m1 st1

theorem ok_cond {F : Fence} {o : Operand} {x y : Code} {p q : Box Ops} (hx : CodeOk kps P F kp n x p.f) (hy : CodeOk kps P F kp n y q.f) : CodeOk kps P F kp n (.cond o x y) (condS kp o p q).f := fun rec hrec base w c H T a e T' H' hh hs hT hM hB h Q hQ => by
  obtain ⟨b, hb, h2⟩ := onBool_go (h : ((opd kp o).f [] T).onBool .no (fun x => cnd x (p.f rec T H) (q.f rec T H)) = .go e T' H')
  have hv := opd_sound (.start hs hT) o
  rw [hb] at hv
  refine wpIn_cond hv.inv_bool ?_
  cases b with
  | true => exact hx rec hrec base w c H T a e T' H' hh hs hT hM hB h2 Q hQ
  | false => exact hy rec hrec base w c H T a e T' H' hh hs hT hM hB h2 Q hQ

theorem ok_block {F : Fence} {id : Nat} {x : Code} {p : Box Ops} (hx : CodeOk kps P F kp n x p.f) : CodeOk kps P F kp n (.block id x) (blockS id p).f := fun rec hrec base w c H T a e T' H' hh hs hT hM hB h Q hQ => by
  change blockF id (p.f rec T H) = _ at h
  cases hp : p.f rec T H with
  | no => rw [hp] at h; cases h
  | go e1 T1 H1 =>
    rw [hp] at h
    refine wpIn_block (hx rec hrec base w c H T a e1 T1 H1 hh hs hT hM hB hp _ fun a1 w1 c1 s1 t1 m1 st1 => ?_)
    cases e1 with
    | normal => injection h with h1 h2 h3; subst h1; subst h2; subst h3; exact hQ a1 w1 c1 s1 t1 m1 st1
    | exit j =>
      injection h with h1 h2 h3
      subst h2; subst h3
      show if j = id then Q .normal a1 w1 else Q (.exit j) a1 w1
      by_cases e1 : j = id
      · subst e1
        rw [Nat.beq_refl] at h1
        subst h1
        rw [if_pos rfl]; exact hQ a1 w1 c1 s1 t1 m1 st1
      · have : Nat.beq id j = false := by
          cases hb : Nat.beq id j with
          | false => rfl
          | true => exact absurd (Nat.eq_of_beq_eq_true hb).symm e1
        rw [this] at h1
        subst h1
        rw [if_neg e1]; exact hQ a1 w1 c1 s1 t1 m1 st1
    | ret => injection h with h1 h2 h3; subst h1; subst h2; subst h3; exact hQ a1 w1 c1 s1 t1 m1 st1

theorem ok_loop {F : Fence} {x : Code} {p : Box Ops} (hx : CodeOk kps P F kp n x p.f) : CodeOk kps P F kp n (.loop x) (loopS p).f := fun rec hrec base w c H T a e T' H' hh hs hT hM hB h Q hQ => by
  refine wpIn_loop_rounds 100000 ?_
  change loopN (p.f rec) 100000 T H = _ at h
  generalize 100000 = m at *
  induction m generalizing w c H T a with
  | zero => cases h
  | succ m ih =>
    change onRes (p.f rec T H) _ = _ at h
    cases hp : p.f rec T H with
    | no => rw [hp] at h; cases h
    | go e1 T1 H1 =>
      rw [hp] at h
      rw [roundsIn_succ]
      refine hx rec hrec base w c H T a e1 T1 H1 hh hs hT hM hB hp _ fun a1 w1 c1 s1 t1 m1 st1 => ?_
      cases e1 with
      | normal => exact ih w1 c1 H1 T1 a1 st1.hr s1 t1 m1 (Nat.le_trans hB st1.same.size) (fun a' w' c' h1 h2 h3 h4 => hQ a' w' c' h1 h2 h3 (st1.trans h4)) h
      | exit j => injection h with h1 h2 h3; subst h1; subst h2; subst h3; exact hQ a1 w1 c1 s1 t1 m1 st1
      | ret => injection h with h1 h2 h3; subst h1; subst h2; subst h3; exact hQ a1 w1 c1 s1 t1 m1 st1

/-- A block that nobody names is laid. -/
theorem stp_alloc (hh : HR kps w c H) (o : Obj) : Stp kps w c H (w.alloc o) c H := by
  have hpush : ∀ j, j < w.heap.size → (w.alloc o).heap[j]? = w.heap[j]? := fun j hj => by show (w.heap.push o)[j]? = _; rw [Array.getElem?_push, if_neg (by omega)]
  exact ⟨same_alloc w o, Ext.refl c, ⟨hh.N, hh.max, hh.pr, fun b x hb hx => (hh.blk b x hb hx).mono hb (Ext.refl c) (fun j hj => hpush j (hh.S j hj)) (hpush _ (hh.blk b x hb hx).lt), hh.own, hh.inj, fun j hj => by rw [hpush j (hh.S j hj)]; exact hh.cS j hj⟩,
    fun j hj _ => hpush j hj, fun b x hb hx => .inl ⟨b, x, hb, hx, rfl⟩, rfl, fun _ h => .inl h, fun _ h => .inl h, Nat.le_refl _, fun _ _ => rfl⟩

theorem inv_func {g : FuncId} {first cap : List AV} {v : Value} (h : VR w c ⟨.x (.fn (.func g) first cap)⟩ v) : ∃ fv cv, v = .func (.func g) fv cv ∧ ArgsR w c first fv ∧ ArgsR w c cap cv := by
  cases h with
  | fn _ _ _ fv cv hy l1 l2 e1 e2 => exact ⟨fv, cv, rfl, ⟨l1, e1⟩, ⟨l2, e2⟩⟩

/-- The record of a loop is laid. -/
theorem enter_sound (hh : HR kps w c H) (hm : H.next < maxH) {fn fn' : FuncId} {ps : Array Tmp} {as body : Code} {base : Nat} (hs : a.tmps.size = n) (hT : TR w c (kps fn) T a.tmps) (hM : Marks base w a.defers) (hB : base ≤ w.heap.size) :
    ∃ w1 c1, (Instr.enterLoop fn' a.tmps ps as body none).run P w = .ok (w.heap.size + 1, [{ target := .collected w.heap.size, args := #[] }]) w1 ∧ Stp kps w c H w1 c1 ⟨H.next + 1, H.prot, (H.upd H.next (.leaf (.loop fn T n ps as body .ready none))).tr⟩ ∧
      c1.blk H.next = w.heap.size + 1 ∧ c1.D H.next ∧ Marks base w1 ({ target := .collected w.heap.size, args := #[] } :: a.defers) := by
  have hstA := stp_alloc hh (.deferred (some []))
  have hsz1 : (w.alloc (.deferred (some []))).heap.size = w.heap.size + 1 := by show (w.heap.push _).size = _; simp
  have hTA := hT.step hh hstA
  obtain ⟨L, hL⟩ : ∃ L : Loop, L = { state := .ready, pending := none, fn := fn', tmps := a.tmps, params := ps, assign := as, body := body, defers := w.heap.size } := ⟨_, rfl⟩
  have hlay := lay_new hstA.hr (hstA.hr.free hm) (same_alloc (w.alloc (.deferred (some []))) (.loop L)) rfl (.leaf (.loop fn T n ps as body .ready none)) 0 0 0 0 false (fun y hy => ⟨rfl, by
      injection hy with hy; subst hy
      refine ⟨a.tmps, fn', w.heap.size, ?_, hs, hTA.mono (c.more_ext (hstA.hr.free hm).free _ _ _ _ _ _) fun j hj => ?_⟩
      · show ((w.alloc (.deferred (some []))).heap.push _)[if H.next = H.next then _ else _]? = _
        rw [if_pos rfl, hL]; exact Array.getElem?_push_size
      · have := hstA.hr.S j hj
        show ((w.alloc (.deferred (some []))).heap.push _)[j]? = _
        rw [Array.getElem?_push, if_neg (by omega)]⟩) fun h => by cases h
  have hstB := hlay.stp (Stp.refl hstA.hr) (Nat.le_refl _) (hstA.hr.free hm)
  refine ⟨(w.alloc (.deferred (some []))).alloc (.loop L), _, ?_, hstA.trans hstB, ?_, ?_, ?_⟩
  · simp only [Instr.enterLoop, Sem.run_bind, run_newObj_alloc, Sem.run_pure, Result.andThen_ok, hL, hsz1]
  · rw [← hsz1]; exact if_pos rfl
  · exact .inr rfl
  · have hM' := (hM.step hh hstA).step hstA.hr hstB
    refine ⟨fun d hd => ?_, List.nodup_cons.2 ⟨fun hin => ?_, hM.nodup⟩⟩
    · rcases List.mem_cons.1 hd with rfl | hd
      · refine ⟨w.heap.size, rfl, hB, ?_⟩
        show ((w.heap.push _).push _)[_]? = _
        rw [Array.getElem?_push, if_neg (by simp)]
        exact Array.getElem?_push_size
      · exact hM'.all d hd
    · obtain ⟨r, hr, _, hr2⟩ := hM.all _ hin
      injection hr with hr
      injection hr with hr
      rw [← hr] at hr2
      have := (Array.getElem?_eq_some_iff.1 hr2).1
      omega

/-- Behind the function that was ranged over. -/
theorem endLoop_sound (hh : HR kps w c H) {l : Nat} (hl : c.D l) {e : AE} {T' : Tr AV} (h : endLoopF l T H = .go e T' H') :
    T' = T ∧ ∃ jump w', (Instr.endLoop (c.blk l)).run P w = .ok jump w' ∧ loopJump jump = some e ∧ Stp kps w c H w' c H' := by
  have key : ∀ fn2 T2 m2 ps2 as2 body2 st2 pend2, st2 ≠ .busy → H.get l = some (.loop fn2 T2 m2 ps2 as2 body2 st2 pend2) → sb (loopJump pend2) (fun e => sb (H.set l .nil) fun H => .go e T H) = .go e T' H' →
      T' = T ∧ ∃ jump w', (Instr.endLoop (c.blk l)).run P w = .ok jump w' ∧ loopJump jump = some e ∧ Stp kps w c H w' c H' := fun fn2 T2 m2 ps2 as2 body2 st2 pend2 hnb hg2 h7 => by
    obtain ⟨e3, hj, h8⟩ := sb_go h7
    obtain ⟨H3, hset, h9⟩ := sb_go h8
    injection h9 with h9 h10 h11
    subst h9; subst h10; subst h11
    obtain ⟨hprot, rfl⟩ := AH.set_some hset
    obtain ⟨tmps2, fn3, d3, g1, g2, g3⟩ := hh.blk _ _ hl hg2
    obtain ⟨f1, f2, f3, f4⟩ := withObj_facts g1 (.loop { state := .exhausted, pending := pend2, fn := fn3, tmps := tmps2, params := ps2, assign := as2, body := body2, defers := d3 })
    refine ⟨rfl, pend2, _, ?_, hj, stp_set hh hl hg2 hprot f1 f2 f4 (x1 := .nil) fun y hy => by cases hy⟩
    have : (st2 == LoopState.busy) = false := by cases st2 <;> first | rfl | exact absurd rfl hnb
    simp only [Instr.endLoop, Sem.run_bind, getLoop_run g1, Result.andThen_ok, this]
    simp [setLoop_run g1]
  unfold endLoopF at h
  split at h
  · cases h
  · rename_i fn2 T2 m2 ps2 as2 body2 st2 pend2 hnb hg2
    exact key _ _ _ _ _ _ _ _ hnb hg2 h
  · cases h

theorem range_parts {rec : Rec} {fn : FuncId} {f : Ev} {ps : Array Tmp} {as body : Code} {e : AE} {T' : Tr AV} (h : rangeF fn n f ps as body rec T H = .go e T' H') :
    H.next < maxH ∧ ∃ g first cap v1 H1, f [] T = ⟨.x (.fn (.func g) first cap)⟩ ∧ rec g (app first (.fn (.yield H.next) [] [] :: cap)) ⟨H.next + 1, H.prot, (H.upd H.next (.leaf (.loop fn T n ps as body .ready none))).tr⟩ = .ok v1 H1 ∧ endLoopF H.next T H1 = .go e T' H' := by
  obtain ⟨v0, H2, h1, h2⟩ := vb_go h
  obtain ⟨hm, h3⟩ := AH.new_ok h1
  obtain ⟨gg, first, cap, hg, h4⟩ := onFn_ok h3
  refine ⟨hm, ?_⟩
  cases gg with
  | func gg =>
    change vv (rec gg _ _) _ = _ at h4
    cases hr : rec gg (app first (.fn (.yield H.next) [] [] :: cap)) ⟨H.next + 1, H.prot, (H.upd H.next (.leaf (.loop fn T n ps as body .ready none))).tr⟩ with
    | no => rw [hr] at h4; cases h4
    | ok v1 H1 =>
      rw [hr] at h4
      injection h4 with h5 h6
      subst h5; subst h6
      exact ⟨gg, first, cap, v1, H1, hg, hr, h2⟩
  | _ => cases h4

theorem ok_range (ht : t.Ok P) {fn : FuncId} {g : Operand} {ps : Array Tmp} {as body : Code} : CodeOk kps P Fence.wide (kps fn) n (.rangeFunc g ps as body) (rangeF fn n (opd (kps fn) g).f ps as body) :=
  fun rec hrec base w c H T a e T' H' hh hs hT hM hB h Q hQ => by
  obtain ⟨hm, gg, first, cap, v1, H2, hg, hrec1, h6⟩ := range_parts h
  have hgv := opd_sound (.start hs hT) g
  rw [hg] at hgv
  obtain ⟨fv, cv, hgv', a1, a2⟩ := inv_func hgv
  refine wpIn_rangeFunc fun fn' _ => ?_
  obtain ⟨w1, c1, hent, hst1, hblk, hN1, hM1⟩ := enter_sound (P := P) (fn := fn) (fn' := fn') (ps := ps) (as := as) (body := body) hh hm hs hT hM hB
  have hy : VR w1 c1 (.fn (.yield H.next) [] []) (.func (.yield (w.heap.size + 1)) #[] #[]) := by rw [← hblk]; exact .yield _ hN1
  have hargs : ArgsR w1 c1 (app first (.fn (.yield H.next) [] [] :: cap)) ((fv ++ #[.func (.yield (w.heap.size + 1)) #[] #[]]) ++ cv) := by
    rw [Array.append_assoc]
    have b1 : ArgsR w1 c1 first fv := ⟨a1.1, fun i u v hu hv => (a1.2 i u v hu hv).step hh hst1⟩
    have b2 : ArgsR w1 c1 cap cv := ⟨a2.1, fun i u v hu hv => (a2.2 i u v hu hv).step hh hst1⟩
    have b3 : ArgsR w1 c1 [.fn (.yield H.next) [] []] #[.func (.yield (w.heap.size + 1)) #[] #[]] := ⟨rfl, fun i u v hu hv => by
      cases i with
      | zero => simp at hu hv; subst hu; subst hv; exact hy
      | succ i => simp at hu⟩
    have := b1.app (b3.app b2)
    simpa using this
  obtain ⟨hcall, hcin⟩ := hrec gg _ _ w1 c1 _ v1 H2 hst1.hr hargs hrec1
  have hc0 : ∀ v, a.eval (.const v) = v := fun v => rfl
  have hres : (resolve a.eval (rangeCall g (w.heap.size + 1)) 0).run P w1 = .ok { target := .fn (.func gg) cv, args := fv ++ #[.func (.yield (w.heap.size + 1)) #[] #[]] } w1 := by
    simp [resolve, rangeCall, Deferred.ofValue, hgv', hc0]
  refine ⟨w.heap.size + 1, _, w1, _, w1, gg, _, w1, hent, hres, fun _ _ => trivial, hcall, fun h => (by cases h), Wd.calls .wide (hcin.mono fun e2 w2 he => ?_)⟩
  obtain ⟨u, c2, rfl, _, hst2⟩ := he
  have hl2 : c2.D H.next := hst2.ext.D _ hN1
  have hb2 : c2.blk H.next = w.heap.size + 1 := (hst2.ext.blk _ hN1).trans hblk
  obtain ⟨rfl, jump, w4, hend, hj, hst3⟩ := endLoop_sound (P := P) hst2.hr hl2 h6
  rw [hb2] at hend
  have hst23 := hst2.trans hst3
  have hfin := hst1.trans hst23
  have hq := hQ { a with defers := [{ target := .collected w.heap.size, args := #[] }] ++ a.defers } w4 c2 hs (hT.step hh hfin) (hM1.step hst1.hr hst23) hfin
  refine ⟨jump, w4, hend, ?_⟩
  cases jump with
  | none => injection hj with hj; subst hj; exact hq
  | some cd =>
    cases cd with
    | ret => injection hj with hj; subst hj; exact wpIn_ret hq
    | exit id => injection hj with hj; subst hj; exact wpIn_exit hq
    | _ => cases hj

theorem ev_sound (ht : t.Ok P) {draw : Draw} (hdraw : DrawOk kps P draw) {F : Fence} (hF : Wd F) {run : Run} (hrun : RunOk kps P run) {rng : Bool} (hr : rng = true → F = Fence.wide) (fn : FuncId) (n : Nat) (cd : Code) :
    CodeOk kps P F (kps fn) n cd (ev t (kps fn) kps draw run rng fn n cd).f := by
  induction cd with
  | skip => exact ok_skip
  | region id ops d =>
    cases d with
    | false => exact ok_region hF ht hrun
    | true => exact hdraw F hF run hrun fn n id ops
  | seq x y hx hy => exact ok_seq hx hy
  | cond o x y hx hy => exact ok_cond hx hy
  | block id x hx => exact ok_block hx
  | loop x hx => exact ok_loop hx
  | rangeFunc g ps as body _ _ =>
    cases rng with
    | false => exact ok_no
    | true => rw [hr rfl]; exact ok_range ht
  | exit id => exact ok_exit
  | ret => exact ok_ret
  | _ => exact ok_no

theorem runN_sound (ht : t.Ok P) {draw : Draw} (hdraw : DrawOk kps P draw) (k : Nat) : RunOk kps P (runN t kps draw k) := by
  induction k with
  | zero => exact fun F hF fn n cd => ok_no
  | succ k ih => exact fun F hF fn n cd => ev_sound ht hdraw hF ih (fun h => by cases h) fn n cd
end
end Go.Drip

