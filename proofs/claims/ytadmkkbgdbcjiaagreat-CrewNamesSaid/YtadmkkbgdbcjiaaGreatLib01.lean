import Derived.Test.YtadmkkbgdbcjiaaGreatLib00
import Derived.TacticsIn
import Derived.WalkKit
import Derived.Laws.Cells
import Derived.Laws.Small
/-
Lists, trees, what abstract values and blocks stand for, the tables, activations. No condition.
-/
/-
Trees and lists of the evaluator: plain facts.
-/
set_option linter.unusedVariables false
set_option linter.unusedSimpArgs false
namespace Go.Drip

/-! ### Lists -/
section
variable {α β : Type}
@[simp] theorem len_eq (l : List α) : len l = l.length := by induction l with | nil => rfl | cons a l ih => show Nat.succ (len l) = _; rw [ih]; rfl
@[simp] theorem drp_eq (l : List α) (n : Nat) : drp l n = l.drop n := by
  induction l generalizing n with
  | nil => cases n <;> rfl
  | cons a l ih => cases n with | zero => rfl | succ n => exact ih n
@[simp] theorem tak_eq (l : List α) (n : Nat) : tak l n = l.take n := by
  induction l generalizing n with
  | nil => cases n <;> rfl
  | cons a l ih => cases n with | zero => rfl | succ n => show a :: tak l n = _; rw [ih n]; rfl
@[simp] theorem app_eq (l m : List α) : app l m = l ++ m := by induction l with | nil => rfl | cons a l ih => show a :: app l m = _; rw [ih]; rfl
@[simp] theorem nth_eq (l : List α) (n : Nat) : nth l n = l[n]? := by
  induction l generalizing n with
  | nil => cases n <;> rfl
  | cons a l ih => cases n with | zero => rfl | succ n => rw [List.getElem?_cons_succ]; exact ih n
@[simp] theorem setAt_eq (l : List α) (x : α) (n : Nat) : setAt l x n = l.set n x := by
  induction l generalizing n with
  | nil => cases n <;> rfl
  | cons a l ih => cases n with | zero => rfl | succ n => show a :: setAt l x n = _; rw [ih n]; rfl
@[simp] theorem rep_eq (x : α) (n : Nat) : rep x n = List.replicate n x := by induction n with | zero => rfl | succ n ih => show x :: rep x n = _; rw [ih]; rfl
@[simp] theorem flat_eq (l : List (List α)) : flat l = l.flatten := by induction l with | nil => rfl | cons a l ih => show app a (flat l) = _; rw [ih]; simp
theorem tabl_eq (f : Nat → α) (n i : Nat) : tabl f n i = (List.range' i n).map f := by
  induction n generalizing i with
  | zero => rfl
  | succ n ih => show f i :: tabl f n (Nat.succ i) = _; rw [ih]; rfl
theorem over_nil (n : Nat) (xs : List α) : over ([] : List α) n xs = [] := rfl
theorem over_length (l : List α) (n : Nat) (xs : List α) : (over l n xs).length = l.length := by
  induction l generalizing n xs with
  | nil => rfl
  | cons a l ih =>
    cases n with
    | zero => cases xs with | nil => rfl | cons x xs => show (over l 0 xs).length + 1 = _; rw [ih]; rfl
    | succ n => show (over l n xs).length + 1 = _; rw [ih]; rfl
theorem over_get (l : List α) (n : Nat) (xs : List α) (i : Nat) : (over l n xs)[i]? = if n ≤ i ∧ i < n + xs.length ∧ i < l.length then xs[i - n]? else l[i]? := by
  induction l generalizing n xs i with
  | nil => simp [over_nil]
  | cons a l ih =>
    cases n with
    | zero =>
      cases xs with
      | nil => show (a :: l)[i]? = _; simp
      | cons x xs =>
        show (x :: over l 0 xs)[i]? = _
        cases i with
        | zero => simp
        | succ i => simp only [List.getElem?_cons_succ]; rw [ih]; simp
    | succ n =>
      show (a :: over l n xs)[i]? = _
      cases i with
      | zero => simp
      | succ i =>
        simp only [List.getElem?_cons_succ]; rw [ih]
        have e : i + 1 - (n + 1) = i - n := by omega
        rw [e]
        by_cases h : n ≤ i ∧ i < n + xs.length ∧ i < l.length
        · rw [if_pos h, if_pos (by simp; omega)]
        · rw [if_neg h, if_neg (by simp; omega)]
theorem lenIs_some {n : Nat} {l m : List α} (h : lenIs n l = some m) : m = l ∧ l.length = n := by
  unfold lenIs at h
  simp only [len_eq] at h
  cases e : Nat.beq l.length n with
  | false => rw [e] at h; cases h
  | true => rw [e] at h; injection h with h; exact ⟨h.symm, Nat.eq_of_beq_eq_true e⟩
theorem cut_some {l m : List α} {o n : Nat} (h : cut l o n = some m) : m = (l.drop o).take n ∧ m.length = n := by
  unfold cut at h
  simp only [drp_eq, tak_eq] at h
  obtain ⟨rfl, h2⟩ := lenIs_some h
  exact ⟨rfl, h2⟩
theorem cut_get {l m : List α} {o n : Nat} (h : cut l o n = some m) (i : Nat) (hi : i < n) : m[i]? = l[o + i]? := by
  obtain ⟨rfl, h2⟩ := cut_some h
  rw [List.getElem?_take_of_lt hi, List.getElem?_drop]
theorem mapO_some {f : α → Option β} {l : List α} {m : List β} (h : mapO f l = some m) : l.length = m.length ∧ ∀ (i : Nat) (a : α) (b : β), l[i]? = some a → m[i]? = some b → f a = some b := by
  induction l generalizing m with
  | nil => injection h with h; subst h; simp
  | cons a l ih =>
    change (opt (f a) none fun b => opt (mapO f l) none fun l => some (b :: l)) = some m at h
    cases ha : f a with
    | none => rw [ha] at h; cases h
    | some b =>
      rw [ha] at h
      cases hl : mapO f l with
      | none => rw [hl] at h; cases h
      | some l' =>
        rw [hl] at h; injection h with h; subst h
        obtain ⟨h1, h2⟩ := ih hl
        refine ⟨by simp [h1], fun i a' b' hi hj => ?_⟩
        cases i with
        | zero => simp at hi hj; subst hi; subst hj; exact ha
        | succ i => exact h2 i a' b' (by simpa using hi) (by simpa using hj)
end

/-! ### Trees -/
section
variable {α : Type}
theorem get_nil (t : Tr α) : Tr.get [] t = match t with | .leaf x => some x | _ => none := by cases t <;> rfl
theorem get_none (p : List Q) : Tr.get p (Tr.nil : Tr α) = none := by cases p <;> rfl
theorem get_cons (q : Q) (p : List Q) (t : Tr α) : Tr.get (q :: p) t = match t with | .node a b c d => Tr.get p (@Q.rec (fun _ => Tr α) a b c d q) | _ => none := by cases t <;> rfl
theorem put_nil (x t : Tr α) : Tr.put x [] t = x := rfl
theorem put_cons (x : Tr α) (q : Q) (p : List Q) (t : Tr α) : Tr.put x (q :: p) t = kids (put4 q (Tr.put x p)) t := rfl
theorem low_cons (q : Q) (p : List Q) (t : Tr α) : Tr.low (q :: p) t = kids (low4 q (Tr.low p)) t := rfl
theorem get_put_same (x : Tr α) (p : List Q) (t : Tr α) : Tr.get p (Tr.put x p t) = Tr.get [] x := by
  induction p generalizing t with
  | nil => rfl
  | cons q p ih => rw [put_cons]; cases t <;> cases q <;> exact ih _
theorem get_put_ne (x : Tr α) (p p' : List Q) (t : Tr α) (hl : p.length = p'.length) (hne : p ≠ p') : Tr.get p' (Tr.put x p t) = Tr.get p' t := by
  induction p generalizing t p' with
  | nil => cases p' with | nil => exact absurd rfl hne | cons _ _ => simp at hl
  | cons q p ih =>
    cases p' with
    | nil => simp at hl
    | cons q' p' =>
      have hl' : p.length = p'.length := by simpa using hl
      rw [put_cons, get_cons, get_cons]
      by_cases hq : q = q'
      · subst hq
        have hp : p ≠ p' := fun e => hne (by rw [e])
        cases t with
        | nil => cases q <;> exact (ih p' .nil hl' hp).trans (get_none p')
        | leaf y => cases q <;> exact (ih p' .nil hl' hp).trans (get_none p')
        | node a b c d => cases q <;> exact ih p' _ hl' hp
      · cases t with
        | nil => cases q <;> cases q' <;> first | exact absurd rfl hq | exact get_none p'
        | leaf y => cases q <;> cases q' <;> first | exact absurd rfl hq | exact get_none p'
        | node a b c d => cases q <;> cases q' <;> first | exact absurd rfl hq | rfl
/-- The order of paths. -/
def qn : Q → Nat | .a => 0 | .b => 1 | .c => 2 | .d => 3
def pn : List Q → Nat | [] => 0 | q :: p => qn q * 4 ^ p.length + pn p
theorem pn_lt (p : List Q) : pn p < 4 ^ p.length := by
  induction p with
  | nil => simp [pn]
  | cons q p ih =>
    simp only [pn, List.length_cons, Nat.pow_succ]
    have : qn q ≤ 3 := by cases q <;> simp [qn]
    have := Nat.mul_le_mul_right (4 ^ p.length) this
    omega
theorem get_low {p p' : List Q} {t : Tr α} {x : α} (hl : p.length = p'.length) (h : Tr.get p' (Tr.low p t) = some x) : Tr.get p' t = some x ∧ pn p' < pn p := by
  induction p generalizing t p' with
  | nil => cases p' with | nil => cases h | cons _ _ => simp at hl
  | cons q p ih =>
    cases p' with
    | nil => simp at hl
    | cons q' p' =>
      have hl' : p.length = p'.length := by simpa using hl
      rw [low_cons, get_cons] at h
      rw [get_cons]
      have hb := pn_lt p'
      have hpow : 4 ^ p.length = 4 ^ p'.length := by rw [hl']
      simp only [pn, hpow]
      generalize 4 ^ p'.length = c at *
      have hn : ∀ t : Tr α, Tr.get p' (Tr.low p t) = some x → Tr.get p' t = some x ∧ pn p' < pn p := fun t h => ih hl' h
      have h0 : Tr.get p' (.nil : Tr α) ≠ some x := by rw [get_none]; intro h; cases h
      have h00 : Tr.get p' (Tr.low p .nil : Tr α) ≠ some x := fun h => h0 (hn _ h).1
      cases t with
      | nil => cases q <;> cases q' <;> first | exact absurd h h0 | exact absurd h h00
      | leaf y => cases q <;> cases q' <;> first | exact absurd h h0 | exact absurd h h00
      | node a b c d =>
        cases q <;> cases q' <;> simp only [kids, low4, qn] at h ⊢ <;> first
          | exact absurd h h0
          | exact ⟨h, by omega⟩
          | exact ⟨(hn _ h).1, by have := (hn _ h).2; omega⟩
theorem get_low_lt {p p' : List Q} {t : Tr α} (hl : p.length = p'.length) (h : pn p' < pn p) : Tr.get p' (Tr.low p t) = Tr.get p' t := by
  induction p generalizing t p' with
  | nil => cases p' with | nil => exact absurd h (Nat.lt_irrefl _) | cons _ _ => simp at hl
  | cons q p ih =>
    cases p' with
    | nil => simp at hl
    | cons q' p' =>
      have hl' : p.length = p'.length := by simpa using hl
      rw [low_cons, get_cons, get_cons]
      have hb := pn_lt p'
      have hb2 := pn_lt p
      have hpow : 4 ^ p.length = 4 ^ p'.length := by rw [hl']
      simp only [pn, hpow] at h hb2
      generalize 4 ^ p'.length = c at *
      have hn : ∀ t : Tr α, pn p' < pn p → Tr.get p' (Tr.low p t) = Tr.get p' t := fun t h => ih hl' h
      have h0 : Tr.get p' (.nil : Tr α) = none := get_none p'
      cases t with
      | nil => cases q <;> cases q' <;> simp only [kids, low4, qn] at h ⊢ <;> first | exact h0 | (rw [hn _ (by omega)]; exact h0) | (exfalso; omega)
      | leaf y => cases q <;> cases q' <;> simp only [kids, low4, qn] at h ⊢ <;> first | exact h0 | (rw [hn _ (by omega)]; exact h0) | (exfalso; omega)
      | node a b c d => cases q <;> cases q' <;> simp only [kids, low4, qn] at h ⊢ <;> first | rfl | (rw [hn _ (by omega)]) | (exfalso; omega)
theorem path_length (k i : Nat) (l : List Q) : (path k i l).length = k + l.length := by
  induction k generalizing i l with
  | zero => simp [path]
  | succ k ih => simp only [path]; rw [ih]; simp; omega
theorem qn_digit (i : Nat) (h : i < 4) : qn (digit i) = i := by
  have : i = 0 ∨ i = 1 ∨ i = 2 ∨ i = 3 := by omega
  rcases this with rfl | rfl | rfl | rfl <;> rfl
theorem pn_path (k i : Nat) (l : List Q) (h : i < 4 ^ k) : pn (path k i l) = i * 4 ^ l.length + pn l := by
  induction k generalizing i l with
  | zero => simp at h; subst h; simp [path]
  | succ k ih =>
    simp only [path]
    have hd : Nat.div i 4 < 4 ^ k := by
      rw [Nat.pow_succ] at h
      exact Nat.div_lt_of_lt_mul (by omega)
    rw [ih _ _ hd]
    have hm : Nat.mod i 4 < 4 := Nat.mod_lt _ (by omega)
    simp only [pn, List.length_cons, Nat.pow_succ, qn_digit _ hm]
    have e : 4 * Nat.div i 4 + Nat.mod i 4 = i := Nat.div_add_mod i 4
    generalize Nat.div i 4 = a at *
    generalize Nat.mod i 4 = b at *
    subst e
    generalize 4 ^ l.length = c
    rw [Nat.add_mul, Nat.mul_comm 4 a, Nat.mul_assoc, Nat.mul_comm 4 c]
    omega
theorem path_inj {k i j : Nat} (hi : i < 4 ^ k) (hj : j < 4 ^ k) (h : path k i [] = path k j []) : i = j := by
  have h1 := pn_path k i [] hi
  have h2 := pn_path k j [] hj
  rw [h] at h1
  simp [pn] at h1 h2
  omega
end

/-! ### Heaps -/
theorem AH.get_upd_same (H : AH) (b : Nat) (x : Blk) : (H.upd b (.leaf x)).get b = some x := get_put_same _ _ _
theorem AH.get_upd_nil (H : AH) (b : Nat) : (H.upd b .nil).get b = none := get_put_same _ _ _
theorem AH.get_upd_ne (H : AH) {b b' : Nat} (x : Tr Blk) (hb : b < maxH) (hb' : b' < maxH) (h : b ≠ b') : (H.upd b x).get b' = H.get b' :=
  get_put_ne _ _ _ _ (by simp [pathH, path_length]) (fun e => h (path_inj hb hb' e))
theorem AH.get_prune {H : AH} {n b : Nat} {x : Blk} (hn : n < maxH) (hb : b < maxH) (h : (H.prune n).get b = some x) : H.get b = some x ∧ b < n := by
  obtain ⟨h1, h2⟩ := get_low (p := pathH n) (p' := pathH b) (by simp [pathH, path_length]) h
  refine ⟨h1, ?_⟩
  have e1 := pn_path 8 n [] hn
  have e2 := pn_path 8 b [] hb
  simp [pn] at e1 e2
  unfold pathH at h2
  omega
theorem AH.get_prune_lt {H : AH} {n b : Nat} (hn : n < maxH) (hb : b < n) : (H.prune n).get b = H.get b := by
  refine get_low_lt (p := pathH n) (p' := pathH b) (by simp [pathH, path_length]) ?_
  have e1 := pn_path 8 n [] hn
  have e2 := pn_path 8 b [] (Nat.lt_trans hb hn)
  simp [pn] at e1 e2
  unfold pathH
  omega
theorem AH.set_some {H H' : AH} {b : Nat} {x : Tr Blk} (h : H.set b x = some H') : H.prot ≤ b ∧ H' = H.upd b x := by
  unfold AH.set at h
  cases e : Nat.ble H.prot b with
  | false => rw [e] at h; cases h
  | true => rw [e] at h; injection h with h; exact ⟨Nat.le_of_ble_eq_true e, h.symm⟩
theorem cnd_true {R : Type} (a b : R) : cnd true a b = a := rfl
theorem cnd_false {R : Type} (a b : R) : cnd false a b = b := rfl
theorem cnd_eq {R : Type} (c : Bool) (a b : R) : cnd c a b = if c = true then a else b := by cases c <;> rfl
theorem opt_none {α R : Type} (d : R) (f : α → R) : opt none d f = d := rfl
theorem opt_some {α R : Type} (a : α) (d : R) (f : α → R) : opt (some a) d f = f a := rfl
theorem ob_some {α β : Type} {x : Option α} {f : α → Option β} {b : β} (h : ob x f = some b) : ∃ a, x = some a ∧ f a = some b := by cases x with | none => cases h | some a => exact ⟨a, rfl, h⟩
theorem rb_ok {α : Type} {x : Option α} {f : α → RV} {v : AV} {H : AH} (h : rb x f = .ok v H) : ∃ a, x = some a ∧ f a = .ok v H := by cases x with | none => cases h | some a => exact ⟨a, rfl, h⟩
theorem cnd_some {α : Type} {c : Bool} {a : Option α} {b : α} (h : cnd c a none = some b) : c = true ∧ a = some b := by cases c with | false => cases h | true => exact ⟨rfl, h⟩
theorem cnd_none {α : Type} {c : Bool} {a : Option α} {b : α} (h : cnd c none a = some b) : c = false ∧ a = some b := by cases c with | true => cases h | false => exact ⟨rfl, h⟩
theorem mark_false {α β : Type} {c : Bool} {l : List α} {a : Option β} {b : β} (h : cnd c (lst l none fun _ _ => a) a = some b) : a = some b := by cases c with | true => (cases l with | nil => cases h | cons x l => exact h) | false => exact h
theorem cnd_ok {c : Bool} {a : RV} {v : AV} {H : AH} (h : cnd c a .no = .ok v H) : c = true ∧ a = .ok v H := by cases c with | false => cases h | true => exact ⟨rfl, h⟩
theorem AH.new_ok {H : AH} {x : Tr Blk} {f : Nat → AH → RV} {v : AV} {H' : AH} (h : H.new x f = .ok v H') : H.next < maxH ∧ f H.next ⟨H.next + 1, H.prot, (H.upd H.next x).tr⟩ = .ok v H' := by
  unfold AH.new at h
  cases e : Nat.ble maxH H.next with
  | true => rw [e] at h; cases h
  | false => rw [e] at h; exact ⟨Nat.lt_of_not_le (fun h' => by rw [Nat.ble_eq_true_of_le h'] at e; cases e), h⟩
end Go.Drip

/-
What abstract values and blocks stand for; what a step keeps.
-/
set_option linter.unusedVariables false
set_option linter.unusedSimpArgs false
namespace Go.Drip

/-- What abstract blocks stand for: the block, the cell of the first row, cells of a row, rows, cells of the block; D: the ids in use; S: what is immutable. -/
structure Cx where
  blk : Nat → Nat
  off : Nat → Nat
  sz : Nat → Nat
  rows : Nat → Nat
  cells : Nat → Nat
  D : Nat → Prop
  S : Nat → Prop

/-- An abstract value stands for a value. -/
inductive VR (w : World) (c : Cx) : AV → Value → Prop where
  | any (v : Value) : VR w c ⟨.x .any⟩ v
  | num (k : IntKind) (n : Int) : VR w c ⟨.num k n⟩ (.int k n)
  | bool (b : Bool) : VR w c ⟨.bool b⟩ (.bool b)
  | str (s : ByteArray) : VR w c ⟨.x (.str s.data.toList)⟩ (.string s)
  | oth (v : Value) (h : v.oneCell' = true) : VR w c ⟨.x (.oth v)⟩ v
  | und : VR w c ⟨.x .und⟩ undef
  | nils : VR w c ⟨.x .nils⟩ (.slice none 0 0)
  | nilp : VR w c ⟨.x .nilp⟩ (.pointer none)
  | nilf : VR w c ⟨.x .nilf⟩ .nilFunc
  | ptr (b r k : Nat) (hb : c.D b) : VR w c ⟨.ptr b r k⟩ (.pointer (some ⟨c.blk b, c.off b + r * c.sz b + k, none⟩))
  | sl (b r n s : Nat) (cap : Option Nat) (k : Nat) (hb : c.D b) (hs : s = c.sz b) (hn : n ≤ k) (hc : ∀ m, cap = some m → k = m) (hr : cap = none → c.rows b ≤ r + k) (hk : c.off b + (r + k) * c.sz b ≤ c.cells b) :
      VR w c ⟨.sl b r n s cap⟩ (.slice (some ⟨c.blk b, c.off b + r * c.sz b, none⟩) n k)
  | sl0 (b r s : Nat) (hb : c.D b) (hs : s = c.sz b) (hr : c.rows b = r) (g o : Nat) : VR w c ⟨.sl b r 0 s none⟩ (.slice (some ⟨g, o, none⟩) 0 0)
  | immz (s : Nat) (f : Nat → List AV) (A : Option Addr) (k : Nat) (hA : A = none → f 0 = []) : VR w c ⟨.x (.imm s 0 f)⟩ (.slice A 0 k)
  | z (A : Option Addr) : VR w c ⟨.x .z⟩ (.slice A 0 0)
  | ip (cs : List AV) (g o : Nat) (vals : Nat → Value) (hs : 0 < cs.length → c.S g) (hc : ∀ j, j < cs.length → w.cell? ⟨g, o + j, none⟩ = some (vals j)) (h1 : ∀ j, j < cs.length → (vals j).oneCell' = true)
      (hv : ∀ (j : Nat) (u : AV), cs[j]? = some u → VR w c u (vals j)) : VR w c ⟨.x (.ip cs)⟩ (.pointer (some ⟨g, o, none⟩))
  | imm (sz n : Nat) (f : Nat → List AV) (g o k : Nat) (vals : Nat → Nat → Value) (hk : n ≤ k) (hs : 0 < n → 0 < sz → c.S g) (hl : ∀ i, i < n → (f i).length = sz)
      (hc : ∀ i j, i < n → j < sz → w.cell? ⟨g, o + (i * sz + j), none⟩ = some (vals i j)) (h1 : ∀ i j, i < n → j < sz → (vals i j).oneCell' = true)
      (hv : ∀ (i j : Nat) (u : AV), i < n → (f i)[j]? = some u → VR w c u (vals i j)) : VR w c ⟨.x (.imm sz n f)⟩ (.slice (some ⟨g, o, none⟩) n k)
  | mp (b : Nat) (hb : c.D b) : VR w c ⟨.x (.mp b)⟩ (.map (some (c.blk b)))
  | fn (f : Fn) (first cap : List AV) (fv cv : Array Value) (hf : ∀ l, f ≠ .yield l) (l1 : first.length = fv.size) (l2 : cap.length = cv.size)
      (h1 : ∀ (i : Nat) (u : AV) (v : Value), first[i]? = some u → fv[i]? = some v → VR w c u v) (h2 : ∀ (i : Nat) (u : AV) (v : Value), cap[i]? = some u → cv[i]? = some v → VR w c u v) :
      VR w c ⟨.x (.fn f first cap)⟩ (.func f fv cv)
  | yield (l : Nat) (hl : c.D l) : VR w c ⟨.x (.fn (.yield l) [] [])⟩ (.func (.yield (c.blk l)) #[] #[])
  | agg (cs : List AV) (vs : Array Value) (hl : cs.length = vs.size) (h1 : ∀ (i : Nat) (v : Value), vs[i]? = some v → v.oneCell' = true)
      (hv : ∀ (i : Nat) (u : AV) (v : Value), cs[i]? = some u → vs[i]? = some v → VR w c u v) : VR w c ⟨.agg cs⟩ (.agg vs)
  | tup (cs : List AV) (vs : Array Value) (hl : cs.length = vs.size) (hv : ∀ (i : Nat) (u : AV) (v : Value), cs[i]? = some u → vs[i]? = some v → VR w c u v) : VR w c ⟨.x (.tup cs)⟩ (.tuple vs)

/-- More blocks, and more that is immutable. -/
structure Ext (c c' : Cx) : Prop where
  D : ∀ b, c.D b → c'.D b
  blk : ∀ b, c.D b → c'.blk b = c.blk b
  off : ∀ b, c.D b → c'.off b = c.off b
  sz : ∀ b, c.D b → c'.sz b = c.sz b
  rows : ∀ b, c.D b → c'.rows b = c.rows b
  cells : ∀ b, c.D b → c'.cells b = c.cells b
  S : ∀ k, c.S k → c'.S k
theorem Ext.refl (c : Cx) : Ext c c := ⟨fun _ h => h, fun _ _ => rfl, fun _ _ => rfl, fun _ _ => rfl, fun _ _ => rfl, fun _ _ => rfl, fun _ h => h⟩
theorem Ext.trans {a b c : Cx} (h : Ext a b) (k : Ext b c) : Ext a c :=
  ⟨fun x hx => k.D x (h.D x hx), fun x hx => (k.blk x (h.D _ hx)).trans (h.blk x hx), fun x hx => (k.off x (h.D _ hx)).trans (h.off x hx),
    fun x hx => (k.sz x (h.D _ hx)).trans (h.sz x hx), fun x hx => (k.rows x (h.D _ hx)).trans (h.rows x hx),
    fun x hx => (k.cells x (h.D _ hx)).trans (h.cells x hx), fun x hx => k.S x (h.S x hx)⟩

theorem VR.mono {w w' : World} {c c' : Cx} {a : AV} {v : Value} (he : Ext c c') (hS : ∀ k, c.S k → w'.heap[k]? = w.heap[k]?) (h : VR w c a v) : VR w' c' a v := by
  have hcell : ∀ g o : Nat, c.S g → w'.cell? ⟨g, o, none⟩ = w.cell? ⟨g, o, none⟩ := fun g o hg => by simp only [World.cell?, hS g hg]
  induction h with
  | any v => exact .any v
  | num k n => exact .num k n
  | bool b => exact .bool b
  | str s => exact .str s
  | oth v h => exact .oth v h
  | und => exact .und
  | nils => exact .nils
  | nilp => exact .nilp
  | nilf => exact .nilf
  | ptr b r k hb => rw [← he.blk b hb, ← he.off b hb, ← he.sz b hb]; exact .ptr b r k (he.D _ hb)
  | sl b r n s cap k hb hs hn hc hr hk =>
    rw [← he.blk b hb, ← he.off b hb, ← he.sz b hb]
    exact .sl b r n s cap k (he.D _ hb) (by rw [he.sz b hb]; exact hs) hn hc (by rw [he.rows b hb]; exact hr) (by rw [he.off b hb, he.sz b hb, he.cells b hb]; exact hk)
  | sl0 b r s hb hs hr g o => exact .sl0 b r s (he.D _ hb) (by rw [he.sz b hb]; exact hs) (by rw [he.rows b hb]; exact hr) g o
  | immz s f A k hA => exact .immz s f A k hA
  | z A => exact .z A
  | ip cs g o vals hs hc h1 hv ih => exact .ip cs g o vals (fun h => he.S _ (hs h)) (fun j hj => by rw [hcell g _ (hs (by omega))]; exact hc j hj) h1 ih
  | imm sz n f g o k vals hk hs hl hc h1 hv ih => exact .imm sz n f g o k vals hk (fun h h' => he.S _ (hs h h')) hl (fun i j hi hj => by rw [hcell g _ (hs (by omega) (by omega))]; exact hc i j hi hj) h1 ih
  | mp b hb => rw [← he.blk b hb]; exact .mp b (he.D _ hb)
  | fn f first cap fv cv hf l1 l2 h1 h2 ih1 ih2 => exact .fn f first cap fv cv hf l1 l2 ih1 ih2
  | yield l hl => rw [← he.blk l hl]; exact .yield l (he.D _ hl)
  | agg cs vs hl h1 hv ih => exact .agg cs vs hl h1 ih
  | tup cs vs hl hv ih => exact .tup cs vs hl ih

/-! ### The forms of what is stood for -/
section
variable {w : World} {c : Cx} {v : Value}
theorem VR.inv_num {k : IntKind} {n : Int} (h : VR w c ⟨.num k n⟩ v) : v = .int k n := by cases h; rfl
theorem VR.inv_bool {b : Bool} (h : VR w c ⟨.bool b⟩ v) : v = .bool b := by cases h; rfl
theorem VR.inv_str {s : List UInt8} (h : VR w c ⟨.x (.str s)⟩ v) : ∃ t : ByteArray, v = .string t ∧ t.data.toList = s := by cases h; exact ⟨_, rfl, rfl⟩
theorem VR.inv_agg {cs : List AV} (h : VR w c ⟨.agg cs⟩ v) : ∃ vs : Array Value, v = .agg vs ∧ cs.length = vs.size ∧ (∀ (i : Nat) (v : Value), vs[i]? = some v → v.oneCell' = true) ∧ ∀ (i : Nat) (u : AV) (v : Value), cs[i]? = some u → vs[i]? = some v → VR w c u v := by
  cases h with | agg cs vs hl h1 hv => exact ⟨vs, rfl, hl, h1, hv⟩
theorem VR.inv_tup {cs : List AV} (h : VR w c ⟨.x (.tup cs)⟩ v) : ∃ vs : Array Value, v = .tuple vs ∧ cs.length = vs.size ∧ ∀ (i : Nat) (u : AV) (v : Value), cs[i]? = some u → vs[i]? = some v → VR w c u v := by
  cases h with | tup cs vs hl hv => exact ⟨vs, rfl, hl, hv⟩
theorem VR.inv_ptr {b r k : Nat} (h : VR w c ⟨.ptr b r k⟩ v) : v = .pointer (some ⟨c.blk b, c.off b + r * c.sz b + k, none⟩) ∧ c.D b := by cases h; exact ⟨rfl, ‹_›⟩
end

/-! ### Blocks -/
/-- What is kept of the temporaries of an activation. -/
def TR (w : World) (c : Cx) (kp : Kp) (T : Tr AV) (tmps : Array Value) : Prop := ∀ i j, posIn kp.l i = some j → fits kp j = true → VR w c (getP (path kp.k j []) T) (tmps.getD i undef)

/-- The cells of a row. -/
def RowR (w : World) (c : Cx) (arr : Array Value) (o : Nat) (row : List AV) : Prop := ∀ (k : Nat) (u : AV), row[k]? = some u → ∃ v, arr[o + k]? = some v ∧ VR w c u v ∧ v.oneCell' = true

def BlkR (kps : FuncId → Kp) (w : World) (c : Cx) (b : Nat) : Blk → Prop
  | .cells _ sz rows => sz = c.sz b ∧ rows.length = c.rows b ∧ ∃ arr e, w.heap[c.blk b]? = some (.cells arr e (0, 0)) ∧ arr.size = c.cells b ∧ c.off b + rows.length * sz ≤ arr.size ∧
      ∀ (r : Nat) (row : List AV), rows[r]? = some row → row.length = sz ∧ RowR w c arr (c.off b + r * sz) row
  | .map es => ∃ ents clock, w.heap[c.blk b]? = some (.map ents clock) ∧ es.length = ents.size ∧ ∀ (i : Nat) (p : AV × AV) (e : MapEntry), es[i]? = some p → ents[i]? = some e → VR w c p.1 e.key ∧ VR w c p.2 e.val
  | .loop fn T n ps as body st pend => ∃ tmps fn' d, w.heap[c.blk b]? = some (.loop { state := st, pending := pend, fn := fn', tmps, params := ps, assign := as, body, defers := d }) ∧ tmps.size = n ∧ TR w c (kps fn) T tmps

theorem TR.mono {w w' : World} {c c' : Cx} {kp : Kp} {T : Tr AV} {tmps : Array Value} (he : Ext c c') (hS : ∀ k, c.S k → w'.heap[k]? = w.heap[k]?) (h : TR w c kp T tmps) : TR w' c' kp T tmps :=
  fun i j hi hj => (h i j hi hj).mono he hS
theorem RowR.mono {w w' : World} {c c' : Cx} {arr : Array Value} {o : Nat} {row : List AV} (he : Ext c c') (hS : ∀ k, c.S k → w'.heap[k]? = w.heap[k]?) (h : RowR w c arr o row) : RowR w' c' arr o row :=
  fun k u hu => let ⟨v, h1, h2, h3⟩ := h k u hu; ⟨v, h1, h2.mono he hS, h3⟩
theorem BlkR.mono {kps : FuncId → Kp} {w w' : World} {c c' : Cx} {b : Nat} {x : Blk} (hb : c.D b) (he : Ext c c') (hS : ∀ k, c.S k → w'.heap[k]? = w.heap[k]?) (hh : w'.heap[c.blk b]? = w.heap[c.blk b]?) (h : BlkR kps w c b x) : BlkR kps w' c' b x := by
  cases x with
  | cells e sz rows =>
    obtain ⟨h1, h2, arr, e', h3, h4, h5, h6⟩ := h
    refine ⟨by rw [he.sz b hb]; exact h1, by rw [he.rows b hb]; exact h2, arr, e', by rw [he.blk b hb, hh]; exact h3, by rw [he.cells b hb]; exact h4, by rw [he.off b hb]; exact h5, fun r row hr => ?_⟩
    obtain ⟨h7, h8⟩ := h6 r row hr
    exact ⟨h7, by rw [he.off b hb]; exact h8.mono he hS⟩
  | map es =>
    obtain ⟨ents, clock, h1, h2, h3⟩ := h
    exact ⟨ents, clock, by rw [he.blk b hb, hh]; exact h1, h2, fun i p e hp hi => let ⟨a, d⟩ := h3 i p e hp hi; ⟨a.mono he hS, d.mono he hS⟩⟩
  | loop fn T n ps as body st pend =>
    obtain ⟨tmps, fn', d, h1, h2, h3⟩ := h
    exact ⟨tmps, fn', d, by rw [he.blk b hb, hh]; exact h1, h2, h3.mono he hS⟩

/-- The heap. -/
structure HR (kps : FuncId → Kp) (w : World) (c : Cx) (H : AH) : Prop where
  N : ∀ b, c.D b → b < H.next
  max : H.next ≤ maxH
  pr : H.prot ≤ H.next
  blk : ∀ b x, c.D b → H.get b = some x → BlkR kps w c b x
  own : ∀ b x, c.D b → H.get b = some x → ¬ c.S (c.blk b)
  inj : ∀ b b' x x', c.D b → c.D b' → H.get b = some x → H.get b' = some x' → c.blk b = c.blk b' → b = b'
  cS : ∀ k, c.S k → ∃ arr e fz, w.heap[k]? = some (.cells arr e fz)

theorem HR.S {kps : FuncId → Kp} {w : World} {c : Cx} {H : AH} (h : HR kps w c H) (k : Nat) (hk : c.S k) : k < w.heap.size := let ⟨_, _, _, h⟩ := h.cS k hk; (Array.getElem?_eq_some_iff.1 h).1

/-- What is the same in two worlds but for the heap and what was drawn. -/
structure Same (w w' : World) : Prop where
  os : w'.os = w.os
  tape : w'.tape = w.tape
  output : w'.output = w.output
  size : w.heap.size ≤ w'.heap.size
theorem Same.refl (w : World) : Same w w := ⟨rfl, rfl, rfl, Nat.le_refl _⟩
theorem Same.trans {a b c : World} (h : Same a b) (k : Same b c) : Same a c := ⟨k.os.trans h.os, k.tape.trans h.tape, k.output.trans h.output, Nat.le_trans h.size k.size⟩

/-- A step: from a world, what blocks stand for, and a heap to others. -/
structure Stp (kps : FuncId → Kp) (w : World) (c : Cx) (H : AH) (w' : World) (c' : Cx) (H' : AH) : Prop where
  same : Same w w'
  ext : Ext c c'
  hr : HR kps w' c' H'
  frame : ∀ k, k < w.heap.size → (∀ b x, c.D b → H.get b = some x → c.blk b ≠ k) → w'.heap[k]? = w.heap[k]?
  own : ∀ b x, c'.D b → H'.get b = some x → (∃ b0 x0, c.D b0 ∧ H.get b0 = some x0 ∧ c.blk b0 = c'.blk b) ∨ w.heap.size ≤ c'.blk b
  prot : H'.prot = H.prot
  ownS : ∀ k, c'.S k → c.S k ∨ (∃ b0 x0, c.D b0 ∧ H.get b0 = some x0 ∧ c.blk b0 = k) ∨ w.heap.size ≤ k
  newD : ∀ b, c'.D b → c.D b ∨ H.next ≤ b
  next : H.next ≤ H'.next
  kept : ∀ b, b < H.prot → H'.get b = H.get b

theorem Stp.refl {kps : FuncId → Kp} {w : World} {c : Cx} {H : AH} (h : HR kps w c H) : Stp kps w c H w c H :=
  ⟨Same.refl w, Ext.refl c, h, fun _ _ _ => rfl, fun b x hb hx => .inl ⟨b, x, hb, hx, rfl⟩, rfl, fun _ h => .inl h, fun _ h => .inl h, Nat.le_refl _, fun _ _ => rfl⟩
theorem Stp.S {kps : FuncId → Kp} {w w' : World} {c c' : Cx} {H H' : AH} (h0 : HR kps w c H) (h : Stp kps w c H w' c' H') (k : Nat) (hk : c.S k) : w'.heap[k]? = w.heap[k]? :=
  h.frame k (h0.S k hk) fun b x hb hx he => h0.own b x hb hx (by rw [he]; exact hk)
theorem Stp.trans {kps : FuncId → Kp} {w w1 w2 : World} {c c1 c2 : Cx} {H H1 H2 : AH} (h : Stp kps w c H w1 c1 H1) (k : Stp kps w1 c1 H1 w2 c2 H2) : Stp kps w c H w2 c2 H2 := by
  refine ⟨h.same.trans k.same, h.ext.trans k.ext, k.hr, fun g hg hn => ?_, fun b x hb hx => ?_, k.prot.trans h.prot, fun g hg => ?_, fun b hb => ?_, Nat.le_trans h.next k.next, fun b hb => ?_⟩
  · rw [k.frame g (Nat.lt_of_lt_of_le hg h.same.size) ?_, h.frame g hg hn]
    intro b x hb hx he
    rcases h.own b x hb hx with ⟨b0, x0, h1, h2, h3⟩ | h1
    · exact hn b0 x0 h1 h2 (h3.trans he)
    · omega
  · rcases k.own b x hb hx with ⟨b0, x0, h1, h2, h3⟩ | h1
    · rcases h.own b0 x0 h1 h2 with ⟨b1, x1, g1, g2, g3⟩ | g1
      · exact .inl ⟨b1, x1, g1, g2, g3.trans h3⟩
      · exact .inr (h3 ▸ g1)
    · exact .inr (Nat.le_trans h.same.size h1)
  · rcases k.ownS g hg with h1 | ⟨b0, x0, h1, h2, h3⟩ | h1
    · exact h.ownS g h1
    · rcases h.own b0 x0 h1 h2 with ⟨b1, x1, g1, g2, g3⟩ | g1
      · exact .inr (.inl ⟨b1, x1, g1, g2, g3.trans h3⟩)
      · exact .inr (.inr (h3 ▸ g1))
    · exact .inr (.inr (Nat.le_trans h.same.size h1))
  · rcases k.newD b hb with h1 | h1
    · exact h.newD b h1
    · exact .inr (Nat.le_trans h.next h1)
  · rw [k.kept b (by rw [h.prot]; exact hb), h.kept b hb]
theorem VR.step {kps : FuncId → Kp} {w w' : World} {c c' : Cx} {H H' : AH} {a : AV} {v : Value} (h0 : HR kps w c H) (h : Stp kps w c H w' c' H') (hv : VR w c a v) : VR w' c' a v := hv.mono h.ext (h.S h0)
theorem TR.step {kps : FuncId → Kp} {w w' : World} {c c' : Cx} {H H' : AH} {kp : Kp} {T : Tr AV} {tmps : Array Value} (h0 : HR kps w c H) (h : Stp kps w c H w' c' H') (hv : TR w c kp T tmps) : TR w' c' kp T tmps := hv.mono h.ext (h.S h0)
end Go.Drip

/-
Operations that look at no memory, and those that read it: what the evaluator says is so.
-/
set_option linter.unusedVariables false
set_option linter.unusedSimpArgs false
namespace Go.Drip

/-- Cells of two values are numbers of the same kinds, and bools. -/
def Kdp (ks : List (Option IntKind)) (xs ys : Array Value) : Prop := ∀ (i : Nat) (x y : Value), xs[i]? = some x → ys[i]? = some y →
  (∃ (k : IntKind) (a b : Int), ks[i]? = some (some k) ∧ x = .int k a ∧ y = .int k b) ∨ ∃ a b : Bool, ks[i]? = some none ∧ x = .bool a ∧ y = .bool b
/-- The tables tell of the program. -/
structure Tab.Ok (t : Tab) (P : Program) : Prop where
  und : ∀ ty d, t.und ty = some d → P.underlying ty = some d
  info : ∀ ty n, t.size ty = some n → ∃ i, P.info? ty = some i ∧ i.size = n ∧ i.bytes = t.bytes ty
  zero : ∀ ty zs, t.zero ty = some zs → ∃ i z, P.info? ty = some i ∧ i.zero = some z ∧ zs = z.cells.toList.map ofVal1 ∧ i.size = z.cells.size ∧ (∀ v, v ∈ z.cells.toList → v.oneCell' = true) ∧
    (∀ d, P.underlying ty = some d → (isAggD d = true → ∃ cs, z = .agg cs) ∧ (isAggD d = false → z.cells = #[z]))
  fn : ∀ f fn, t.fn f = some fn → P.funcs[f]? = some fn ∧ (∀ c, fn.body = some c → ∀ args w, (callFunc f args).run P w = .ok (.enter f args) w)
  flat : ∀ ty ks, t.flat ty = some ks → P.eqGuardType P.depth ty = false ∧ ∀ (xs ys : Array Value) (w : World), xs.size = ks.length → ys.size = ks.length → Kdp ks xs ys →
      (∃ r : Bool, (Op.equal ty (.agg xs) (.agg ys)).run P w = .ok r w ∧ (r = true ↔ xs = ys)) ∧ ∀ e : Bool, (Instr.checkKey e 10000 ty (.agg xs)).run P w = .ok () w
  mixed : P.follows .mixedOrders = true

section
variable {t : Tab} {P : Program} (ht : t.Ok P) (w : World)
theorem run_und {ty : TypeId} {d : TypeDesc} (h : P.underlying ty = some d) : (underlying ty).run P w = .ok d w := by simp [underlying, h]
theorem run_info {ty : TypeId} {i : TypeInfo} (h : P.info? ty = some i) : (typeInfo ty).run P w = .ok i w := by simp [typeInfo, h]
theorem run_size {ty : TypeId} {i : TypeInfo} (h : P.info? ty = some i) : (sizeOf ty).run P w = .ok i.size w := by simp [sizeOf, run_info w h]
theorem run_zero {ty : TypeId} {i : TypeInfo} {z : Value} (h : P.info? ty = some i) (hz : i.zero = some z) : (zeroValue ty).run P w = .ok z w := by simp [zeroValue, run_info w h, hz]
theorem run_isAgg {ty : TypeId} {d : TypeDesc} (h : P.underlying ty = some d) : (isAgg ty).run P w = .ok (isAggD d) w := by cases d <;> simp [isAgg, run_und w h, isAggD]
theorem aggSize_some (ht : t.Ok P) {ty : TypeId} {s : Bool × Nat} (h : aggSize t ty = some s) : ∃ d i, P.underlying ty = some d ∧ P.info? ty = some i ∧ s = (isAggD d, i.size) := by
  unfold aggSize at h
  obtain ⟨d, hd, h⟩ := ob_some h
  obtain ⟨n, hn, h⟩ := ob_some h
  obtain ⟨i, hi, hs, _⟩ := ht.info _ _ hn
  injection h with h
  exact ⟨d, i, ht.und _ _ hd, hi, by rw [← h, hs]⟩
end

/-! ### Cells -/
/-- Cells stand for values, one by one. -/
structure CsR (w : World) (c : Cx) (cs : List AV) (vs : Array Value) : Prop where
  len : cs.length = vs.size
  one : ∀ (i : Nat) (v : Value), vs[i]? = some v → v.oneCell' = true
  at_ : ∀ (i : Nat) (u : AV) (v : Value), cs[i]? = some u → vs[i]? = some v → VR w c u v

section
variable {P : Program} {w : World} {c : Cx}
theorem oneCell_cells {v : Value} (h : v.oneCell' = true) : v.cells = #[v] := by cases v <;> simp_all [Value.oneCell', Value.cells]
theorem CsR.agg {cs : List AV} {vs : Array Value} (h : CsR w c cs vs) : VR w c ⟨.agg cs⟩ (.agg vs) := .agg cs vs h.len h.one h.at_
theorem CsR.one1 {x : AV} {v : Value} (h : VR w c x v) (h1 : v.oneCell' = true) : CsR w c [x] #[v] :=
  ⟨rfl, fun i u hi => by
    have : i = 0 := by have := (Array.getElem?_eq_some_iff.1 hi).1; simp at this; omega
    subst this; simp at hi; subst hi; exact h1, fun i u w' hu hi => by
    have : i = 0 := by have := (Array.getElem?_eq_some_iff.1 hi).1; simp at this; omega
    subst this; simp at hi hu; subst hi; subst hu; exact h⟩
/-- The cells of a value. -/
theorem VR.cells {x : AV} {v : Value} (h : VR w c x v) (hx : x.cells ≠ []) : CsR w c x.cells v.cells := by
  cases h with
  | any v => exact absurd rfl hx
  | und => exact absurd rfl hx
  | tup cs vs => exact absurd rfl hx
  | agg cs vs hl h1 hv => exact ⟨hl, h1, hv⟩
  | oth v ho => rw [oneCell_cells ho]; exact .one1 (.oth v ho) ho
  | num k n => exact .one1 (.num k n) rfl
  | bool b => exact .one1 (.bool b) rfl
  | str s => exact .one1 (.str s) rfl
  | nils => exact .one1 .nils rfl
  | nilp => exact .one1 .nilp rfl
  | nilf => exact .one1 .nilf rfl
  | ptr b r k hb => exact .one1 (.ptr b r k hb) rfl
  | sl b r n s cap k hb hs hn hc hr hk => exact .one1 (.sl b r n s cap k hb hs hn hc hr hk) rfl
  | sl0 b r s hb hs hr g o => exact .one1 (.sl0 b r s hb hs hr g o) rfl
  | immz s f A k hA => exact .one1 (.immz s f A k hA) rfl
  | z A => exact .one1 (.z A) rfl
  | ip cs g o vals hs hc h1 hv => exact .one1 (.ip cs g o vals hs hc h1 hv) rfl
  | imm sz n f g o k vals hk hs hl hc h1 hv => exact .one1 (.imm sz n f g o k vals hk hs hl hc h1 hv) rfl
  | mp b hb => exact .one1 (.mp b hb) rfl
  | fn f first cap fv cv hf l1 l2 h1 h2 => exact .one1 (.fn f first cap fv cv hf l1 l2 h1 h2) rfl
  | yield l hl => exact .one1 (.yield l hl) rfl
theorem getElem?_extract' {vs : Array Value} {o n j : Nat} {v : Value} (h : (vs.extract o (o + n))[j]? = some v) : vs[o + j]? = some v ∧ j < n := by
  have hjl := (Array.getElem?_eq_some_iff.1 h).1
  simp at hjl
  rw [Array.getElem?_extract, if_pos (by omega)] at h
  exact ⟨h, by omega⟩
theorem part_sound {ty : TypeId} {d : TypeDesc} {i : TypeInfo} (hd : P.underlying ty = some d) (hi : P.info? ty = some i) {cs : List AV} {vs : Array Value} {o : Nat} {x : AV}
    (hl : cs.length ≤ vs.size) (h1 : ∀ (j : Nat) (v : Value), j < cs.length → vs[j]? = some v → v.oneCell' = true) (hv : ∀ (j : Nat) (u : AV) (v : Value), cs[j]? = some u → vs[j]? = some v → VR w c u v)
    (h : (partA (isAggD d, i.size)).f cs o = some x) : ∃ v, (part ty vs o).run P w = .ok v w ∧ VR w c x v ∧ ((isAggD d = false ∧ v.oneCell' = true) ∨ (isAggD d = true ∧ ∃ ws ys, x = ⟨.agg ys⟩ ∧ v = .agg ws ∧ ws.size = i.size)) := by
  unfold part
  simp only [Sem.run_bind, run_isAgg w hd, Result.andThen_ok]
  cases hagg : isAggD d with
  | true =>
    rw [hagg] at h
    change ob (cut cs o i.size) aggC = some x at h
    obtain ⟨m, hm, hx⟩ := ob_some h
    injection hx with hx
    obtain ⟨rfl, hml⟩ := cut_some hm
    have hle : i.size = 0 ∨ o + i.size ≤ cs.length := by simp at hml; omega
    have hsz : (vs.extract o (o + i.size)).size = i.size := by simp; omega
    refine ⟨.agg (vs.extract o (o + i.size)), by simp [run_size w hi], ?_, .inr ⟨rfl, _, _, hx.symm, rfl, hsz⟩⟩
    subst hx
    refine .agg _ _ (by rw [hml, hsz]) (fun j v hj => ?_) fun j u v hu hj => ?_
    · obtain ⟨h2, h3⟩ := getElem?_extract' hj
      exact h1 (o + j) v (by omega) h2
    · obtain ⟨h2, h3⟩ := getElem?_extract' hj
      rw [List.getElem?_take_of_lt h3, List.getElem?_drop] at hu
      exact hv (o + j) u v hu h2
  | false =>
    rw [hagg] at h
    have key : ∃ u, cs[o]? = some u ∧ x = u := by
      unfold partA at h
      split at h
      · rename_i heq; injection heq with h1 _; cases h1
      · simp only [nth_eq] at h; exact ⟨x, h, rfl⟩
      · rename_i n _ heq
        obtain ⟨m, hm, hx⟩ := ob_some h
        obtain ⟨rfl, hml⟩ := cut_some hm
        cases hcs : List.take n (List.drop o cs) with
        | nil => rw [hcs] at hx; cases hx
        | cons a l =>
          rw [hcs] at hx
          cases l with
          | cons b l => cases hx
          | nil =>
            injection hx with hx
            subst hx
            have h0 : (List.take n (List.drop o cs))[0]? = some a := by rw [hcs]; rfl
            have hn : 0 < n := by
              rcases Nat.eq_zero_or_pos n with h | h
              · rw [h] at hcs; simp at hcs
              · exact h
            rw [List.getElem?_take_of_lt hn, List.getElem?_drop] at h0
            exact ⟨a, by simpa using h0, rfl⟩
    obtain ⟨u, hu, rfl⟩ := key
    have ho : o < cs.length := (List.getElem?_eq_some_iff.1 hu).1
    have hvo : vs[o]? = some (vs[o]'(by omega)) := Array.getElem?_eq_getElem (by omega)
    exact ⟨vs[o]'(by omega), by simp [hvo], hv o _ _ hu hvo, .inl ⟨rfl, h1 o _ ho hvo⟩⟩
end
end Go.Drip

/-
Operations that look at no memory.
-/
set_option linter.unusedVariables false
set_option linter.unusedSimpArgs false
namespace Go.Drip

/-- An activation. -/
structure AR (w : World) (c : Cx) (n : Nat) (kp : Kp) (R : Rl) (T : Tr AV) (a : Act) : Prop where
  size : a.tmps.size = n
  tr : TR w c kp T a.tmps
  rl : ∀ i, posIn kp.l i = none → VR w c (look i R) (a.tmps.getD i undef)

section
variable {P : Program} {w : World} {c : Cx} {n : Nat} {kp : Kp} {R : Rl} {T : Tr AV} {a : Act}

theorem oth_any (v : Value) : VR w c (cnd v.oneCell' (.oth v) .any) v := by
  cases h : v.oneCell' with
  | true => exact .oth _ h
  | false => exact .any _
theorem ofVal1_sound (v : Value) : VR w c (ofVal1 v) v := by
  unfold ofVal1
  split
  · exact .num _ _
  · exact .bool _
  · exact .str _
  · exact .nils
  · exact .nilp
  · exact .nilf
  · exact oth_any _
theorem ofVal_sound (v : Value) : VR w c (ofVal v) v := by
  unfold ofVal
  split
  · rename_i cs
    cases h : cs.toList.all Value.oneCell' with
    | false => exact .any _
    | true =>
      refine .agg _ _ (by simp) (fun i v hv => ?_) fun i u v hu hv => ?_
      · rw [List.all_eq_true] at h
        exact h v (by rw [Array.mem_toList_iff]; exact Array.mem_of_getElem? hv)
      · simp only [List.getElem?_map, Option.map_eq_some_iff] at hu
        obtain ⟨v', hv', rfl⟩ := hu
        have : v = v' := by simpa [hv] using hv'
        subst this
        exact ofVal1_sound _
  · exact ofVal1_sound _
theorem getS_sound (h : AR w c n kp R T a) (i : Nat) : VR w c ((getS kp i).f R T) (a.tmps.getD i undef) := by
  unfold getS
  cases hp : posIn kp.l i with
  | none => exact h.rl i hp
  | some j =>
    cases hf : fits kp j with
    | false => simp only [hf]; exact .any _
    | true => simp only [hf]; exact h.tr i j hp hf
theorem opd_sound (h : AR w c n kp R T a) (x : Operand) : VR w c ((opd kp x).f R T) (a.eval x) := by
  cases x with
  | tmp t => exact getS_sound h t
  | const v => exact ofVal_sound v
  | global g => exact .oth _ rfl
  | func f => exact .fn _ _ _ _ _ (by intro l hl; cases hl) rfl rfl (by simp) (by simp)
end

/-! ### Numbers -/
theorem kindEq_true {j k : IntKind} (h : kindEq j k = true) : j = k := by cases j <;> cases k <;> first | rfl | (exact absurd h (by decide))
theorem intEq_eq (x y : Int) : intEq x y = (x == y) := by
  rw [Bool.eq_iff_iff, beq_iff_eq]
  cases x with
  | ofNat a =>
    cases y with
    | ofNat b => exact ⟨fun h => by rw [Nat.eq_of_beq_eq_true h], fun h => by injection h with h; subst h; exact Nat.beq_refl a⟩
    | negSucc b => exact ⟨fun h => (by cases h), fun h => (by cases h)⟩
  | negSucc a =>
    cases y with
    | ofNat b => exact ⟨fun h => (by cases h), fun h => (by cases h)⟩
    | negSucc b => exact ⟨fun h => by rw [Nat.eq_of_beq_eq_true h], fun h => by injection h with h; subst h; exact Nat.beq_refl a⟩
theorem intLt_eq (x y : Int) : intLt x y = decide (x < y) := by
  rw [Bool.eq_iff_iff, decide_eq_true_iff]
  cases x with
  | ofNat a =>
    cases y with
    | ofNat b => exact ⟨fun h => Int.ofNat_lt.2 (Nat.le_of_ble_eq_true h), fun h => Nat.ble_eq_true_of_le (Int.ofNat_lt.1 h)⟩
    | negSucc b => exact ⟨fun h => (by cases h), fun h => absurd h (by simp only [Int.ofNat_eq_natCast]; omega)⟩
  | negSucc a =>
    cases y with
    | ofNat b => exact ⟨fun _ => (by simp only [Int.ofNat_eq_natCast]; omega), fun _ => rfl⟩
    | negSucc b => exact ⟨fun h => by have := Nat.le_of_ble_eq_true h; omega, fun h => Nat.ble_eq_true_of_le (by omega)⟩
theorem not'_eq (b : Bool) : not' b = !b := by cases b <;> rfl
theorem boolEq_eq (a b : Bool) : boolEq a b = (a == b) := by cases a <;> cases b <;> rfl
theorem inI64_wrap {n : Int} (h : inI64 n = true) : IntKind.wrap .i64 n = n := by
  have : -9223372036854775808 ≤ n ∧ n < 9223372036854775808 := by
    cases n with
    | ofNat m => have := Nat.le_of_ble_eq_true h; simp only [Int.ofNat_eq_natCast]; omega
    | negSucc m => have := Nat.le_of_ble_eq_true h; omega
  simp only [IntKind.wrap, IntKind.bits, IntKind.signed]
  simp
  split <;> omega
theorem wrapF_eq (k : IntKind) (n : Int) : wrapF k n = k.wrap n := by
  unfold wrapF
  cases h1 : isI64 k with
  | false => rfl
  | true =>
    cases h2 : inI64 n with
    | false => rfl
    | true =>
      have : k = .i64 := by cases k <;> first | rfl | cases h1
      subst this
      exact (inI64_wrap h2).symm
theorem addF_eq (x y : Int) : addF x y = x + y := by cases x <;> cases y <;> rfl
theorem subF_eq (x y : Int) : subF x y = x - y := by
  cases x with
  | ofNat a =>
    cases y with
    | ofNat b =>
      show cnd (Nat.ble b a) (Int.ofNat (Nat.sub a b)) _ = _
      cases h : Nat.ble b a with
      | false => rfl
      | true => have := Nat.le_of_ble_eq_true h; show ((a - b : Nat) : Int) = (a : Int) - (b : Int); omega
    | negSucc b => rfl
  | negSucc a => rfl
theorem bytesEq_eq (x y : List UInt8) : bytesEq x y = (x == y) := by
  induction x generalizing y with
  | nil => cases y <;> rfl
  | cons a x ih =>
    cases y with
    | nil => rfl
    | cons b y =>
      show cnd (Nat.beq a.toNat b.toNat) (bytesEq x y) false = _
      rw [ih]
      have : Nat.beq a.toNat b.toNat = (a == b) := by
        rw [Bool.eq_iff_iff, beq_iff_eq]
        exact ⟨fun h => UInt8.toNat_inj.1 (Nat.eq_of_beq_eq_true h), fun h => by subst h; exact Nat.beq_refl _⟩
      rw [this]
      cases h : a == b with
      | false => simp [cnd_false, h]
      | true => simp [cnd_true, h]

/-! ### Forms -/
section
variable {x : AV} {α : Type}
theorem onNum_some {f : IntKind → Int → Option α} {r : α} (h : x.onNum none f = some r) : ∃ k n, x = ⟨.num k n⟩ ∧ f k n = some r := by
  obtain ⟨x⟩ := x; cases x <;> first | exact ⟨_, _, rfl, h⟩ | cases h
theorem onBool_some {f : Bool → Option α} {r : α} (h : x.onBool none f = some r) : ∃ b, x = ⟨.bool b⟩ ∧ f b = some r := by
  obtain ⟨x⟩ := x; cases x <;> first | exact ⟨_, rfl, h⟩ | cases h
theorem onAgg_some {f : List AV → Option α} {r : α} (h : x.onAgg none f = some r) : ∃ cs, x = ⟨.agg cs⟩ ∧ f cs = some r := by
  obtain ⟨x⟩ := x; cases x <;> first | exact ⟨_, rfl, h⟩ | cases h
theorem onStr_some {f : List UInt8 → Option α} {r : α} (h : x.onStr none f = some r) : ∃ s, x = ⟨.x (.str s)⟩ ∧ f s = some r := by
  obtain ⟨x⟩ := x; cases x <;> first | (rename_i w; cases w <;> first | exact ⟨_, rfl, h⟩ | cases h) | cases h
theorem onTup_some {f : List AV → Option α} {r : α} (h : x.onTup none f = some r) : ∃ s, x = ⟨.x (.tup s)⟩ ∧ f s = some r := by
  obtain ⟨x⟩ := x; cases x <;> first | (rename_i w; cases w <;> first | exact ⟨_, rfl, h⟩ | cases h) | cases h
theorem onMp_some {f : Nat → Option α} {r : α} (h : x.onMp none f = some r) : ∃ s, x = ⟨.x (.mp s)⟩ ∧ f s = some r := by
  obtain ⟨x⟩ := x; cases x <;> first | (rename_i w; cases w <;> first | exact ⟨_, rfl, h⟩ | cases h) | cases h
theorem onPtr_some {f : Nat → Nat → Nat → Option α} {r : α} (h : x.onPtr none f = some r) : ∃ b i k, x = ⟨.ptr b i k⟩ ∧ f b i k = some r := by
  obtain ⟨x⟩ := x; cases x <;> first | exact ⟨_, _, _, rfl, h⟩ | cases h
theorem onAddr_some {f : Nat → Nat → Nat → Option α} {g : List AV → Option α} {r : α} (h : x.onAddr none f g = some r) : (∃ b i k, x = ⟨.ptr b i k⟩ ∧ f b i k = some r) ∨ ∃ cs, x = ⟨.x (.ip cs)⟩ ∧ g cs = some r := by
  obtain ⟨x⟩ := x; cases x <;> first | exact .inl ⟨_, _, _, rfl, h⟩ | (rename_i w; cases w <;> first | exact .inr ⟨_, rfl, h⟩ | cases h) | cases h
theorem onSl_some {f : Nat → Nat → Nat → Nat → Option Nat → Option α} {g : Nat → Nat → (Nat → List AV) → Option α} {e nl : Option α} {r : α} (h : x.onSl none f g e nl = some r) :
    (∃ b i n s cap, x = ⟨.sl b i n s cap⟩ ∧ f b i n s cap = some r) ∨ (∃ s n k, x = ⟨.x (.imm s n k)⟩ ∧ g s n k = some r) ∨ (x = ⟨.x .z⟩ ∧ e = some r) ∨ (x = ⟨.x .nils⟩ ∧ nl = some r) := by
  obtain ⟨x⟩ := x
  cases x <;> first
    | exact .inl ⟨_, _, _, _, _, rfl, h⟩
    | (rename_i w; cases w <;> first | exact .inr (.inl ⟨_, _, _, rfl, h⟩) | exact .inr (.inr (.inl ⟨rfl, h⟩)) | exact .inr (.inr (.inr ⟨rfl, h⟩)) | cases h)
    | cases h
theorem onSl_ok {f : Nat → Nat → Nat → Nat → Option Nat → RV} {g : Nat → Nat → (Nat → List AV) → RV} {e nl : RV} {r : AV} {H : AH} (h : x.onSl .no f g e nl = .ok r H) :
    (∃ b i n s cap, x = ⟨.sl b i n s cap⟩ ∧ f b i n s cap = .ok r H) ∨ (∃ s n k, x = ⟨.x (.imm s n k)⟩ ∧ g s n k = .ok r H) ∨ (x = ⟨.x .z⟩ ∧ e = .ok r H) ∨ (x = ⟨.x .nils⟩ ∧ nl = .ok r H) := by
  obtain ⟨x⟩ := x
  cases x <;> first
    | exact .inl ⟨_, _, _, _, _, rfl, h⟩
    | (rename_i w; cases w <;> first | exact .inr (.inl ⟨_, _, _, rfl, h⟩) | exact .inr (.inr (.inl ⟨rfl, h⟩)) | exact .inr (.inr (.inr ⟨rfl, h⟩)) | cases h)
    | cases h
theorem onPtr_ok {f : Nat → Nat → Nat → RV} {r : AV} {H : AH} (h : x.onPtr .no f = .ok r H) : ∃ b i k, x = ⟨.ptr b i k⟩ ∧ f b i k = .ok r H := by
  obtain ⟨x⟩ := x; cases x <;> first | exact ⟨_, _, _, rfl, h⟩ | cases h
theorem onMp_ok {f : Nat → RV} {r : AV} {H : AH} (h : x.onMp .no f = .ok r H) : ∃ s, x = ⟨.x (.mp s)⟩ ∧ f s = .ok r H := by
  obtain ⟨x⟩ := x; cases x <;> first | (rename_i w; cases w <;> first | exact ⟨_, rfl, h⟩ | cases h) | cases h
theorem natOf_some {n : Nat} (h : natOf x = some n) : ∃ k, x = ⟨.num k (.ofNat n)⟩ := by
  obtain ⟨k, i, rfl, hi⟩ := onNum_some h
  cases i with
  | ofNat m => injection hi with hi; subst hi; exact ⟨k, rfl⟩
  | negSucc m => cases hi
theorem idx_some {n i : Nat} (h : idx x n = some i) : ∃ k, x = ⟨.num k (.ofNat i)⟩ ∧ i < n := by
  obtain ⟨k, j, rfl, hj⟩ := onNum_some h
  cases j with
  | ofNat m => obtain ⟨h1, h2⟩ := cnd_some hj; injection h2 with h2; subst h2; exact ⟨k, rfl, Nat.le_of_ble_eq_true h1⟩
  | negSucc m => cases hj
end
end Go.Drip

