import Derived.Test.YtadmkkbgdbcjiaaGreatLib03
import Derived.Laws.MakeOwn
import Derived.Laws.AppendOwn
import Derived.Laws.IdiomStrings
/-
Operations that lay new blocks; blocks that are written; rows that are read. No condition.
-/
/-
New blocks.
-/
set_option linter.unusedVariables false
set_option linter.unusedSimpArgs false
namespace Go.Drip

/-- One more block. -/
def Cx.more (c : Cx) (p g o s r k : Nat) (im : Bool) : Cx :=
  ⟨fun b => if b = p then g else c.blk b, fun b => if b = p then o else c.off b, fun b => if b = p then s else c.sz b, fun b => if b = p then r else c.rows b,
    fun b => if b = p then k else c.cells b, fun b => c.D b ∨ b = p, fun j => c.S j ∨ (im = true ∧ j = g)⟩
theorem Cx.more_ext (c : Cx) {p : Nat} (hp : ¬ c.D p) (g o s r k : Nat) (im : Bool) : Ext c (c.more p g o s r k im) :=
  have ne : ∀ b, c.D b → b ≠ p := fun b hb e => hp (e ▸ hb)
  ⟨fun _ h => .inl h, fun b hb => if_neg (ne b hb), fun b hb => if_neg (ne b hb), fun b hb => if_neg (ne b hb), fun b hb => if_neg (ne b hb), fun b hb => if_neg (ne b hb), fun _ h => .inl h⟩

section
variable {kps : FuncId → Kp} {w w' : World} {c c' : Cx} {H : AH}
theorem BlkR.lt {b : Nat} {x : Blk} (h : BlkR kps w c b x) : c.blk b < w.heap.size := by
  cases x with
  | cells e sz rows => obtain ⟨_, _, arr, e', h3, _⟩ := h; exact (Array.getElem?_eq_some_iff.1 h3).1
  | map es => obtain ⟨ents, clock, h1, _⟩ := h; exact (Array.getElem?_eq_some_iff.1 h1).1
  | loop fn T n ps as body st pend => obtain ⟨tmps, fn', d, h1, _⟩ := h; exact (Array.getElem?_eq_some_iff.1 h1).1

/-- A block is laid under an id that is not in use. -/
structure Lay (kps : FuncId → Kp) (w : World) (c : Cx) (H : AH) (p nx : Nat) (x : Tr Blk) (w' : World) (c' : Cx) : Prop where
  same : Same w w'
  old : ∀ k, k < w.heap.size → w'.heap[k]? = w.heap[k]?
  ext : Ext c c'
  ids : ∀ b, c'.D b → c.D b ∨ b = p
  mem : c'.D p
  blk : w.heap.size ≤ c'.blk p
  S : ∀ k, c'.S k → c.S k ∨ w.heap.size ≤ k
  hr : HR kps w' c' ⟨nx, H.prot, (H.upd p x).tr⟩

/-- What must be so of the id. -/
structure Free (c : Cx) (H : AH) (p nx : Nat) : Prop where
  free : ¬ c.D p
  prot : H.prot ≤ p
  next : H.next ≤ nx
  lt : p < nx
  max : nx ≤ maxH

theorem HR.free (hh : HR kps w c H) (hm : H.next < maxH) : Free c H H.next (H.next + 1) := ⟨fun h => Nat.lt_irrefl _ (hh.N _ h), hh.pr, Nat.le_succ _, Nat.lt_succ_self _, hm⟩

theorem get_lay {c : Cx} {H : AH} (hh : HR kps w c H) {p nx : Nat} (hf : Free c H p nx) {x : Tr Blk} {b : Nat} {y : Blk} (hb : c.D b ∨ b = p) (hy : (AH.mk nx H.prot (H.upd p x).tr).get b = some y) : (b = p ∧ Tr.get [] x = some y) ∨ (c.D b ∧ b ≠ p ∧ H.get b = some y) := by
  have hm := hh.max
  have h1 := hf.lt
  have h2 := hf.max
  by_cases e : b = p
  · left
    refine ⟨e, ?_⟩
    subst e
    rw [← hy]
    exact (get_put_same x (pathH b) H.tr).symm
  · right
    have hD : c.D b := hb.resolve_right e
    have hbn := hh.N b hD
    refine ⟨hD, e, ?_⟩
    have := AH.get_upd_ne H x (b := p) (b' := b) (by omega) (by omega) (Ne.symm e)
    rw [← this]; exact hy

theorem lay_new (hh : HR kps w c H) {p nx : Nat} (hf : Free c H p nx) (hsame : Same w w') {o : Obj} (hw : w'.heap = w.heap.push o) (x : Tr Blk) (f s r k : Nat) (im : Bool)
    (hx : ∀ y, Tr.get [] x = some y → im = false ∧ BlkR kps w' (c.more p w.heap.size f s r k im) p y) (him : im = true → ∃ arr e fz, o = .cells arr e fz) :
    Lay kps w c H p nx x w' (c.more p w.heap.size f s r k im) := by
  have hpush : ∀ j, j < w.heap.size → w'.heap[j]? = w.heap[j]? := fun j hj => by rw [hw, Array.getElem?_push]; rw [if_neg (by omega)]
  have hext := c.more_ext hf.free w.heap.size f s r k im
  have hblk : (c.more p w.heap.size f s r k im).blk p = w.heap.size := if_pos rfl
  refine ⟨hsame, hpush, hext, fun b hb => hb, .inr rfl, by rw [hblk]; exact Nat.le_refl _, fun j hj => hj.imp id fun h => by rw [h.2]; exact Nat.le_refl _, ⟨fun b hb => ?_, hf.max, Nat.le_trans hh.pr hf.next, fun b y hb hy => ?_, fun b y hb hy => ?_, fun b b' y y' hb hb' hy hy' he => ?_, fun j hj => ?_⟩⟩
  · rcases hb with h | rfl
    · exact Nat.lt_of_lt_of_le (hh.N b h) hf.next
    · exact hf.lt
  · rcases get_lay hh hf hb hy with ⟨rfl, h⟩ | ⟨h1, h0, h2⟩
    · exact (hx y h).2
    · have hb2 := hh.blk b y h1 h2
      exact hb2.mono h1 hext (fun j hj => hpush j (hh.S j hj)) (hpush _ hb2.lt)
  · rcases get_lay hh hf hb hy with ⟨rfl, h⟩ | ⟨h1, h0, h2⟩
    · rw [hblk]
      have him := (hx y h).1
      rintro (h | ⟨h, _⟩)
      · have := hh.S _ h; omega
      · rw [him] at h; cases h
    · rw [hext.blk b h1]
      rintro (h | ⟨_, h⟩)
      · exact hh.own b y h1 h2 h
      · have := (hh.blk b y h1 h2).lt; omega
  · rcases get_lay hh hf hb hy with ⟨rfl, h⟩ | ⟨h1, h0, h2⟩ <;> rcases get_lay hh hf hb' hy' with ⟨rfl, h'⟩ | ⟨h1', h0', h2'⟩
    · rfl
    · rw [hblk, hext.blk b' h1'] at he
      have := (hh.blk b' y' h1' h2').lt; omega
    · rw [hblk, hext.blk b h1] at he
      have := (hh.blk b y h1 h2).lt; omega
    · rw [hext.blk b h1, hext.blk b' h1'] at he
      exact hh.inj b b' y y' h1 h1' h2 h2' he
  · rcases hj with h | ⟨himt, h⟩
    · obtain ⟨arr, e, fz, h'⟩ := hh.cS j h
      exact ⟨arr, e, fz, by rw [hpush j (hh.S j h)]; exact h'⟩
    · obtain ⟨arr, e, fz, rfl⟩ := him himt
      exact ⟨arr, e, fz, by rw [h, hw]; simp⟩

/-- .. behind a step. -/
theorem Lay.stp {w0 : World} {c0 : Cx} {H0 : AH} {p nx : Nat} {x : Tr Blk} (h : Lay kps w c H p nx x w' c') (hst : Stp kps w0 c0 H0 w c H) (hp : H0.next ≤ p) (hf : Free c H p nx) : Stp kps w0 c0 H0 w' c' ⟨nx, H.prot, (H.upd p x).tr⟩ := by
  have hh := hst.hr
  refine ⟨hst.same.trans h.same, hst.ext.trans h.ext, h.hr, fun k hk hn => ?_, fun b y hb hy => ?_, hst.prot, fun k hk => ?_, fun b hb => ?_, Nat.le_trans hst.next hf.next, fun b hb => ?_⟩
  · rw [h.old k (Nat.lt_of_lt_of_le hk hst.same.size)]; exact hst.frame k hk hn
  · rcases get_lay hh hf (h.ids b hb) hy with ⟨rfl, _⟩ | ⟨h1, h0, h2⟩
    · exact .inr (Nat.le_trans hst.same.size h.blk)
    · rw [h.ext.blk b h1]; exact hst.own b y h1 h2
  · rcases h.S k hk with h1 | h1
    · exact hst.ownS k h1
    · exact .inr (.inr (Nat.le_trans hst.same.size h1))
  · rcases h.ids b hb with h1 | rfl
    · exact hst.newD b h1
    · exact .inr hp
  · have h1 := hf.prot
    have h2 := hf.lt
    have h3 := hf.max
    have h4 := hst.prot
    have := AH.get_upd_ne H x (b := p) (b' := b) (by omega) (by omega) (by omega)
    exact this.trans (hst.kept b hb)

theorem flatten_get {α : Type} {rows : List (List α)} {sz : Nat} (hl : ∀ row ∈ rows, row.length = sz) {r : Nat} {row : List α} (h : rows[r]? = some row) {k : Nat} (hk : k < sz) : rows.flatten[r * sz + k]? = row[k]? := by
  induction rows generalizing r with
  | nil => simp at h
  | cons a rows ih =>
    have ha := hl a (.head _)
    cases r with
    | zero =>
      simp at h; subst h
      simp only [List.flatten_cons, Nat.zero_mul, Nat.zero_add]
      rw [List.getElem?_append_left (by omega)]
    | succ r =>
      simp only [List.flatten_cons]
      rw [List.getElem?_append_right (by rw [ha, Nat.add_mul]; omega), ha]
      have : (r + 1) * sz + k - sz = r * sz + k := by rw [Nat.add_mul]; omega
      rw [this]
      exact ih (fun row hr => hl row (.tail _ hr)) (by simpa using h)
theorem flatten_length {α : Type} {rows : List (List α)} {sz : Nat} (hl : ∀ row ∈ rows, row.length = sz) : rows.flatten.length = rows.length * sz := by
  induction rows with
  | nil => simp
  | cons a rows ih => rw [List.flatten_cons, List.length_append, hl a (.head _), ih fun row hr => hl row (.tail _ hr), List.length_cons, Nat.add_mul]; omega
theorem BlkR.flat {b : Nat} {e e' : TypeId} {sz : Nat} {rows : List (List AV)} {arr : Array Value} (hs : sz = c.sz b) (hn : rows.length = c.rows b) (hw : w.heap[c.blk b]? = some (.cells arr e' (0, 0))) (hsz : arr.size = c.cells b)
    (hfit : c.off b + rows.length * sz ≤ arr.size) (hlen : ∀ row ∈ rows, row.length = sz) (hr : RowR w c arr (c.off b) rows.flatten) : BlkR kps w c b (.cells e sz rows) := by
  refine ⟨hs, hn, arr, e', hw, hsz, hfit, fun r row hrow => ?_⟩
  have hl := hlen row (List.mem_of_getElem? hrow)
  refine ⟨hl, fun k u hu => ?_⟩
  have hk := (List.getElem?_eq_some_iff.1 hu).1
  obtain ⟨v, h1, h2⟩ := hr (r * sz + k) u (by rw [flatten_get hlen hrow (by omega)]; exact hu)
  exact ⟨v, by rw [Nat.add_assoc]; exact h1, h2⟩
theorem CsR.row {cs : List AV} {arr : Array Value} (h : CsR w c cs arr) : RowR w c arr 0 cs := fun k u hu => by
  have hk : k < arr.size := by have := (List.getElem?_eq_some_iff.1 hu).1; rw [h.len] at this; exact this
  have e := Array.getElem?_eq_getElem hk
  exact ⟨_, by rw [Nat.zero_add]; exact e, h.at_ k u _ hu e, h.one k _ e⟩

/-- A new block of cells. -/
theorem lay_cells (hh : HR kps w c H) {p nx : Nat} (hf : Free c H p nx) (hsame : Same w w') {arr : Array Value} {e e' : TypeId} (hw : w'.heap = w.heap.push (.cells arr e' (0, 0))) {sz : Nat} {rows : List (List AV)}
    (hfit : rows.length * sz ≤ arr.size) (hlen : ∀ row ∈ rows, row.length = sz) (hr : RowR w c arr 0 rows.flatten) :
    Lay kps w c H p nx (.leaf (.cells e sz rows)) w' (c.more p w.heap.size 0 sz rows.length arr.size false) := by
  have hpush : ∀ j, c.S j → w'.heap[j]? = w.heap[j]? := fun j hj => by have := hh.S j hj; rw [hw, Array.getElem?_push, if_neg (by omega)]
  refine lay_new hh hf hsame hw _ _ _ _ _ _ (fun y hy => ⟨rfl, ?_⟩) fun h => by cases h
  injection hy with hy; subst hy
  refine BlkR.flat (if_pos rfl).symm (if_pos rfl).symm (e' := e') (arr := arr) ?_ (if_pos rfl).symm ?_ hlen ?_
  · show w'.heap[if p = p then _ else _]? = _
    rw [if_pos rfl, hw]; simp
  · show (if p = p then 0 else _) + _ ≤ _
    rw [if_pos rfl]; omega
  · show RowR _ _ _ (if p = p then 0 else _) _
    rw [if_pos rfl]
    exact hr.mono (c.more_ext hf.free _ _ _ _ _ _) hpush
end
end Go.Drip

/-
Operations that make a block.
-/
set_option linter.unusedVariables false
set_option linter.unusedSimpArgs false
namespace Go.Drip
section
variable {P : Program} {w : World} {c : Cx} {n : Nat} {kp : Kp} {R : Rl} {T : Tr AV} {a : Act} {t : Tab} {kps : FuncId → Kp} {H : AH}

theorem rep_flat {α : Type} {zs : List α} {sz m i : Nat} {u : α} (hz : zs.length = sz) (h : (List.replicate m zs).flatten[i]? = some u) : i < m * sz ∧ zs[i % sz]? = some u := by
  have hl : ∀ row ∈ List.replicate m zs, row.length = sz := fun row hr => by rw [(List.mem_replicate.1 hr).2]; exact hz
  have hi : i < m * sz := by have := (List.getElem?_eq_some_iff.1 h).1; rw [flatten_length hl] at this; simpa using this
  have hs : 0 < sz := by rcases Nat.eq_zero_or_pos sz with h | h; · subst h; omega
                         · exact h
  have hq : i / sz < m := Nat.div_lt_of_lt_mul (by rw [Nat.mul_comm]; exact hi)
  have := flatten_get hl (r := i / sz) (row := zs) (by rw [List.getElem?_replicate, if_pos hq]) (Nat.mod_lt i hs)
  have e : i / sz * sz + i % sz = i := by rw [Nat.mul_comm]; exact Nat.div_add_mod i sz
  rw [e] at this
  exact ⟨hi, by rw [← this]; exact h⟩
theorem made_CsR {zs : List AV} {z : Array Value} {sz : Nat} (m : Nat) (hz : CsR w c zs z) (hs : zs.length = sz) : CsR w c (List.replicate m zs).flatten (madeCells z (m * sz)) := by
  have hl : ∀ row ∈ List.replicate m zs, row.length = sz := fun row hr => by rw [(List.mem_replicate.1 hr).2]; exact hs
  have hlen : (List.replicate m zs).flatten.length = m * sz := by rw [flatten_length hl]; simp
  have hsz : z.size = sz := by rw [← hz.len, hs]
  have hget : ∀ (i : Nat) (v : Value), (madeCells z (m * sz))[i]? = some v → i < m * sz ∧ z[i % sz]? = some v := fun i v hi => by
    have hi' : i < m * sz := by have := (Array.getElem?_eq_some_iff.1 hi).1; rw [size_madeCells] at this; exact this
    have hs0 : 0 < sz := by rcases Nat.eq_zero_or_pos sz with h | h; · subst h; omega
                            · exact h
    have hm : i % sz < z.size := by rw [hsz]; exact Nat.mod_lt i hs0
    refine ⟨hi', ?_⟩
    unfold madeCells at hi
    rw [Array.getElem?_map, Array.getElem?_range, if_pos hi'] at hi
    simp only [Option.map_some, hsz] at hi
    rw [Array.getElem?_eq_getElem hm, ← hi, getElem!_pos z (i % sz) hm]
  refine ⟨by rw [hlen, size_madeCells], fun i v hi => ?_, fun i u v hu hi => ?_⟩
  · exact hz.one _ v (hget i v hi).2
  · exact hz.at_ _ u v (rep_flat hs hu).2 (hget i v hi).2

theorem chunk_length {α : Type} (sz n : Nat) (l : List α) : (chunk sz n l).length = n := by
  induction n generalizing l with
  | zero => rfl
  | succ n ih => show (chunk sz n _).length + 1 = _; rw [ih]
theorem chunk_flat {α : Type} {sz n : Nat} {l : List α} (h : l.length = n * sz) : (chunk sz n l).flatten = l ∧ ∀ row ∈ chunk sz n l, row.length = sz := by
  induction n generalizing l with
  | zero => exact ⟨by rw [List.eq_nil_of_length_eq_zero (l := l) (by simpa using h)]; rfl, fun row hr => by cases hr⟩
  | succ n ih =>
    have e : chunk sz (n + 1) l = l.take sz :: chunk sz n (l.drop sz) := by show tak l sz :: chunk sz n (drp l sz) = _; rw [tak_eq, drp_eq]
    have hd : (l.drop sz).length = n * sz := by rw [List.length_drop, h, Nat.add_mul]; omega
    obtain ⟨h1, h2⟩ := ih hd
    rw [e]
    refine ⟨by rw [List.flatten_cons, h1, List.take_append_drop], fun row hr => ?_⟩
    rcases List.mem_cons.1 hr with rfl | hr
    · rw [List.length_take, h, Nat.add_mul]; omega
    · exact h2 row hr

/-- What an operation that makes a block comes to. -/
def OpN (kps : FuncId → Kp) (P : Program) (w : World) (c : Cx) (H : AH) (p nx : Nat) (a : Act) (o : Oper) (x : Tr Blk × (Nat → AV)) : Prop :=
  ∃ v w' c', (execOp a.eval o).run P w = .ok (.value v) w' ∧ VR w' c' (x.2 p) v ∧ Lay kps w c H p nx x.1 w' c'

theorem same_alloc (w : World) (o : Obj) : Same w (w.alloc o) := ⟨rfl, rfl, rfl, by show _ ≤ (w.heap.push o).size; simp⟩
theorem ptr_new {w' : World} (p g s r k : Nat) : VR w' (c.more p g 0 s r k false) (ptr0 p) (.pointer (some ⟨g, 0, none⟩)) := by
  have := VR.ptr (w := w') (c := c.more p g 0 s r k false) p 0 0 (.inr rfl)
  simpa [Cx.more, ptr0] using this
theorem sl_new {w' : World} (p g n s m k : Nat) (cap : Option Nat) (hn : n ≤ m) (hcap : ∀ q, cap = some q → m = q) (hr : cap = none → k ≤ m) {arr : Nat} (hk : m * s ≤ arr) :
    VR w' (c.more p g 0 s k arr false) (.sl p 0 n s cap) (.slice (some ⟨g, 0, none⟩) n m) := by
  have := VR.sl (w := w') (c := c.more p g 0 s k arr false) p 0 n s cap m (.inr rfl) (if_pos rfl).symm hn hcap (fun h => by show (if p = p then k else _) ≤ _; rw [if_pos rfl]; have := hr h; omega)
    (by show (if p = p then 0 else _) + _ * (if p = p then s else _) ≤ (if p = p then arr else _); simpa using hk)
  simpa [Cx.more] using this

theorem one_row {l : List AV} : (∀ row ∈ [l], row.length = l.length) ∧ [l].flatten = l := ⟨fun row hr => by rw [List.mem_singleton.1 hr], by simp⟩

theorem alloc_sound (ht : t.Ok P) (hh : HR kps w c H) {p nx : Nat} (hf : Free c H p nx) {o : Oper} {e : TypeId} {zs : List AV} (ho : o.op = .alloc e) (hz : t.zero e = some zs) : OpN kps P w c H p nx a o (.leaf (.cells e (len zs) [zs]), ptr0) := by
  obtain ⟨i, z, hi, hzi, hcs, hs, _⟩ := zero_CsR (w := w) (c := c) ht hz
  refine ⟨.pointer (some ⟨w.heap.size, 0, none⟩), w.alloc (.cells z.cells e (0, 0)), c.more p w.heap.size 0 (len zs) 1 z.cells.size false, ?_, ptr_new _ _ _ _ _, ?_⟩
  · unfold execOp; rw [ho]; simp [Instr.alloc, run_zero w hi hzi, newVar, newRow]
  · refine lay_cells hh hf (same_alloc _ _) rfl (rows := [zs]) (by rw [len_eq, hcs.len]; simp) (fun row hr => by rw [List.mem_singleton.1 hr, len_eq]) ?_
    rw [one_row.2]; exact hcs.row

theorem box_sound (hh : HR kps w c H) (hA : AR w c n kp R T a) {p nx : Nat} (hf : Free c H p nx) {o : Oper} {e : TypeId} {x : Operand} (ho : o.op = .box e x) {r : Tr Blk × (Nat → AV)} (h : boxF e ((opd kp x).f R T) = some r) : OpN kps P w c H p nx a o r := by
  have hv := opd_sound hA x
  generalize (opd kp x).f R T = u at *
  unfold boxF at h
  have hne : u.cells ≠ [] := fun e => by rw [e] at h; cases h
  have hr : r = (.leaf (.cells e (len u.cells) [u.cells]), ptr0) := by
    cases hu : u.cells with
    | nil => exact absurd hu hne
    | cons p q => rw [hu] at h; injection h with h; exact h.symm
  subst hr
  have hcs := hv.cells hne
  refine ⟨.pointer (some ⟨w.heap.size, 0, none⟩), w.alloc (.cells (a.eval x).cells e (0, 0)), c.more p w.heap.size 0 (len u.cells) 1 (a.eval x).cells.size false, ?_, ptr_new _ _ _ _ _, ?_⟩
  · unfold execOp; rw [ho]; simp [Instr.box, newVar, newRow]
  · refine lay_cells hh hf (same_alloc _ _) rfl (rows := [u.cells]) (by rw [len_eq, hcs.len]; simp) (fun row hr => by rw [List.mem_singleton.1 hr, len_eq]) ?_
    rw [one_row.2]; exact hcs.row

theorem makeMap_sound (ht : t.Ok P) (hh : HR kps w c H) (hA : AR w c n kp R T a) {p nx : Nat} (hf : Free c H p nx) {o : Oper} {ty : TypeId} {x : Option Operand} (ho : o.op = .makeMap ty x) {r : Tr Blk × (Nat → AV)}
    (h : (makeMapS t kp ty x).f R T = some r) : OpN kps P w c H p nx a o r := by
  unfold makeMapS at h
  split at h
  · rename_i kt e hty
    have hu := ht.und _ _ hty
    have hr : r = (.leaf (.map []), fun b => .mp b) ∧ (execOp a.eval o).run P w = .ok (.value (.map (some w.heap.size))) (w.alloc (.map #[] 0)) := by
      unfold execOp; rw [ho]
      cases x with
      | none => injection h with h; exact ⟨h.symm, by simp [Instr.makeMap]⟩
      | some x =>
        obtain ⟨m, hm, h2⟩ := ob_some (h : ob (natOf ((opd kp x).f R T)) _ = some r)
        injection h2 with h2
        obtain ⟨k, e⟩ := natOf_some hm
        have hv := opd_sound hA x
        rw [e] at hv
        exact ⟨h2.symm, by simp [Instr.makeMap, run_und w hu, hv.inv_num, asInt, asIntOf]⟩
    obtain ⟨rfl, hrun⟩ := hr
    refine ⟨_, _, c.more p w.heap.size 0 0 0 0 false, hrun, ?_, lay_new hh hf (same_alloc _ _) rfl _ _ _ _ _ _ (fun y hy => ⟨rfl, ?_⟩) fun h => by cases h⟩
    · have := VR.mp (w := w.alloc (.map #[] 0)) (c := c.more p w.heap.size 0 0 0 0 false) p (.inr rfl)
      have e : (c.more p w.heap.size 0 0 0 0 false).blk p = w.heap.size := if_pos rfl
      rw [e] at this
      exact this
    · injection hy with hy; subst hy
      refine ⟨#[], 0, ?_, rfl, fun i p e hi => by simp at hi⟩
      show (w.heap.push _)[if p = p then _ else _]? = _
      rw [if_pos rfl]; simp
  · cases h

theorem convNew_sound (ht : t.Ok P) (hh : HR kps w c H) (hA : AR w c n kp R T a) {p nx : Nat} (hf : Free c H p nx) {o : Oper} {src dst : TypeId} {x : Operand} (ho : o.op = .convert src dst x) {r : Tr Blk × (Nat → AV)}
    (h : (convNewS t kp src dst x).f R T = some r) : OpN kps P w c H p nx a o r := by
  unfold convNewS at h
  split at h
  · rename_i e hs hd
    split at h
    · rename_i he
      obtain ⟨s, hx, h2⟩ := onStr_some (h : convNewF _ = some r)
      injection h2 with h2; subst h2
      have hv := opd_sound hA x
      rw [hx] at hv
      obtain ⟨u, hu, rfl⟩ := hv.inv_str
      have hrun := run_bytes_of_string (P := P) w src dst e u (ht.und _ _ hs) (ht.und _ _ hd) (ht.und _ _ he)
      refine ⟨.slice (some ⟨w.heap.size, 0, none⟩) u.size (grownCap w u.size 0 e), w.drew.alloc (.cells (bytesRow u (grownCap w u.size 0 e)) e ((bytesRow u (grownCap w u.size 0 e)).size, (bytesRow u (grownCap w u.size 0 e)).size + 1)), c.more p w.heap.size 0 0 0 0 true, by unfold execOp; rw [ho]; simp only [hu, Sem.run_bind, hrun, Result.andThen_ok, Sem.run_pure], ?_, lay_new hh hf (w' := w.drew.alloc (.cells (bytesRow u (grownCap w u.size 0 e)) e ((bytesRow u (grownCap w u.size 0 e)).size, (bytesRow u (grownCap w u.size 0 e)).size + 1))) ⟨rfl, rfl, rfl, by show _ ≤ (w.heap.push _).size; simp⟩ rfl .nil _ _ _ _ _ (fun y hy => by cases hy) fun _ => ⟨_, _, _, rfl⟩⟩
      have hlen : len u.data.toList = u.size := by rw [len_eq]; rfl
      show VR _ _ ⟨.x (.imm 1 (len u.data.toList) (byteRow u.data.toList))⟩ _
      rw [hlen]
      have hb : ∀ i, i < u.size → ∃ b : UInt8, u.data.toList[i]? = some b := fun i hi => ⟨_, List.getElem?_eq_getElem (by simpa using hi)⟩
      refine .imm 1 u.size _ w.heap.size 0 _ (fun i _ => .int .u8 ((u.data.toList.getD i 0).toNat : Int)) (grownCap_ge _ _ _ _) (fun _ _ => .inr ⟨rfl, rfl⟩) (fun i hi => ?_) (fun i j hi hj => ?_) (fun i j hi hj => rfl) (fun i j v hi hv => ?_)
      · obtain ⟨b, hb⟩ := hb i hi
        simp [byteRow, hb, opt_some]
      · have hj : j = 0 := by omega
        subst hj
        obtain ⟨b, hb⟩ := hb i hi
        have : (w.heap.push (Obj.cells (bytesRow u (grownCap w u.size 0 e)) e ((bytesRow u (grownCap w u.size 0 e)).size, (bytesRow u (grownCap w u.size 0 e)).size + 1)))[w.heap.size]? = some (.cells (bytesRow u (grownCap w u.size 0 e)) e ((bytesRow u (grownCap w u.size 0 e)).size, (bytesRow u (grownCap w u.size 0 e)).size + 1)) := by simp
        show (match (w.heap.push _)[w.heap.size]? with | some (.cells c _ _) => _ | _ => none) = _
        rw [this]
        have hb2 : u.data[i]? = some b := by simpa using hb
        have hi2 : i < u.data.size := hi
        simp [bytesRow, Array.getElem?_append, hi2, hb2, hb, List.getD]
        exact fun h => absurd h (by omega)
      · obtain ⟨b, hb⟩ := hb i hi
        simp [byteRow, hb, opt_some] at hv
        cases j with
        | zero =>
          simp at hv; subst hv
          simp [List.getD, hb]
          exact .num _ _
        | succ j => simp at hv
    · cases h
  · cases h

theorem sN_some {α : Type} {x : Option α} {f : α → Box PN} {r : Tr Blk × (Nat → AV)} (h : (sN x f).f R T = some r) : ∃ y, x = some y ∧ (f y).f R T = some r := by cases x with | none => cases h | some y => exact ⟨y, rfl, h⟩

theorem makeSlice_sound (ht : t.Ok P) (hh : HR kps w c H) (hA : AR w c n kp R T a) {p nx : Nat} (hf : Free c H p nx) {o : Oper} {ty : TypeId} {x y : Operand} (ho : o.op = .makeSlice ty x y) {r : Tr Blk × (Nat → AV)}
    (h : (makeSliceS t kp ty x y).f R T = some r) : OpN kps P w c H p nx a o r := by
  unfold makeSliceS at h
  split at h
  · rename_i e hty
    obtain ⟨s, hs, h2⟩ := sN_some h
    obtain ⟨zs, hz, h3⟩ := sN_some h2
    obtain ⟨i, z, hi, hzi, hcs, hsz, _⟩ := zero_CsR (w := w) (c := c) ht hz
    obtain ⟨i', hi', hs', hb'⟩ := ht.info _ _ hs
    rw [hi] at hi'; injection hi' with hi'; subst hi'
    cases hb : Nat.beq (len zs) s with
    | false => rw [hb] at h3; cases h3
    | true =>
      rw [hb] at h3
      obtain ⟨l, hl, h4⟩ := ob_some (h3 : makeSliceF _ _ _ _ _ _ = some r)
      obtain ⟨m, hmm, h5⟩ := ob_some h4
      obtain ⟨c1, h6⟩ := cnd_some h5
      obtain ⟨c2, h7⟩ := cnd_some h6
      obtain ⟨c3, h8⟩ := cnd_some h7
      have c1 := Nat.le_of_ble_eq_true c1
      have c2 := Nat.le_of_ble_eq_true c2
      have c3 := Nat.le_of_ble_eq_true c3
      injection h8 with h8; subst h8
      obtain ⟨k1, e1⟩ := natOf_some hl
      obtain ⟨k2, e2⟩ := natOf_some hmm
      have v1 := opd_sound hA x
      have v2 := opd_sound hA y
      rw [e1] at v1; rw [e2] at v2
      have hzl : zs.length = s := by have := Nat.eq_of_beq_eq_true hb; simpa using this
      have hrun := run_make (P := P) w ty e i z (ht.und _ _ hty) hi hzi k1 k2 l m (by omega) (by omega) (by rw [hb', ← Int.natCast_mul]; have : t.bytes e * m ≤ 281474976710656 := c3; omega) (by omega)
      have hmade := made_CsR m hcs hzl
      have hszm : (madeCells z.cells (m * i.size)).size = m * s := by rw [size_madeCells, hs']
      refine ⟨.slice (some ⟨w.heap.size, 0, none⟩) l m, w.alloc (.cells (madeCells z.cells (m * i.size)) e (0, 0)), c.more p w.heap.size 0 s m (m * s) false, ?_, sl_new p _ l s m m (some m) c1 (fun q hq => by injection hq) (fun h => by cases h) (Nat.le_refl _), ?_⟩
      · unfold execOp; rw [ho]
        simp only [v1.inv_num, v2.inv_num, Sem.run_bind, Sem.run_pure, Int.ofNat_eq_natCast, hrun, Result.andThen_ok, Int.toNat_natCast]
      · have := lay_cells hh hf (same_alloc w (.cells (madeCells z.cells (m * i.size)) e (0, 0))) rfl (e := e) (sz := s) (rows := List.replicate m zs) (by simp [hszm]) (fun row hr => by rw [(List.mem_replicate.1 hr).2]; exact hzl)
          (by rw [hs']; exact hmade.row)
        rw [hszm, List.length_replicate] at this
        show Lay _ _ _ _ _ _ (.leaf (.cells e s (rep zs m))) _ _
        rw [rep_eq]; exact this
  · cases h

theorem buildSlice_sound (ht : t.Ok P) (hh : HR kps w c H) (hA : AR w c n kp R T a) {p nx : Nat} (hf : Free c H p nx) {o : Oper} {ty : TypeId} {ln : Nat} {parts : Array (Nat × Operand)} (ho : o.op = .buildSlice ty ln parts) {r : Tr Blk × (Nat → AV)}
    (h : (buildSliceS t kp ty ln parts.toList).f R T = some r) : OpN kps P w c H p nx a o r := by
  unfold buildSliceS at h
  split at h
  · rename_i e hty
    obtain ⟨s, hs, h2⟩ := sN_some h
    obtain ⟨zs, hz, h3⟩ := sN_some h2
    obtain ⟨ps, hps, h4⟩ := sN_some h3
    obtain ⟨i, z, hi, hzi, hcs, hsz, _⟩ := zero_CsR (w := w) (c := c) ht hz
    obtain ⟨i', hi', hs', hb'⟩ := ht.info _ _ hs
    rw [hi] at hi'; injection hi' with hi'; subst hi'
    cases hb0 : Nat.ble (ln * s) 16777216 with
    | false => rw [hb0] at h4; cases h4
    | true =>
      rw [hb0] at h4
      change (cnd (Nat.beq (len zs) s) _ noN).f R T = some r at h4
      cases hb : Nat.beq (len zs) s with
      | false => rw [hb] at h4; cases h4
      | true =>
        rw [hb] at h4
        obtain ⟨cs, hcsf, h5⟩ := ob_some (h4 : buildSliceF _ _ _ _ _ = some r)
        injection h5 with h5; subst h5
        have hzl : zs.length = s := by have := Nat.eq_of_beq_eq_true hb; simpa using this
        have hle := Nat.le_of_ble_eq_true hb0
        have hmade := made_CsR ln hcs hzl
        rw [rep_eq, flat_eq] at hcsf
        obtain ⟨arr', hfill, hcr, hasz⟩ := parts_fill hA hps hmade hcsf
        rw [size_madeCells] at hasz
        have hfill' := fill_tabl (s := s) (fun k p hp => by
          rw [tabl_eq] at hp
          simp only [List.getElem?_map, Option.map_eq_some_iff] at hp
          obtain ⟨q, hq, rfl⟩ := hp
          have := (List.getElem?_eq_some_iff.1 hq).2
          simp at this; subst this; rfl) hfill
        have hrl : cs.length = ln * s := by rw [hcr.len, hasz]
        obtain ⟨f1, f2⟩ := chunk_flat (sz := s) (n := ln) hrl
        refine ⟨.slice (some ⟨w.heap.size, 0, none⟩) ln ln, w.alloc (.cells arr' e (0, 0)), c.more p w.heap.size 0 s ln (ln * s) false, ?_, sl_new p _ ln s ln ln (some ln) (Nat.le_refl _) (fun q hq => by injection hq) (fun h => by cases h) (Nat.le_refl _), ?_⟩
        · have hmc : (Array.range (ln * s)).map (z.cells[· % z.cells.size]!) = madeCells z.cells (ln * s) := rfl
          unfold execOp; rw [ho]
          by_cases h0 : ln * s = 0
          · have hm0 : madeCells z.cells (ln * s) = (Array.range (ln * s)).map ((#[] : Array Value)[· % (#[] : Array Value).size]!) := by unfold madeCells; rw [h0]; simp
            rw [hm0] at hfill'
            simp only [Sem.run_bind, Instr.buildSlice, run_und w (ht.und _ _ hty), Result.andThen_ok, run_size w hi, hs', Sem.run_pure]
            simp [h0] at hfill' ⊢
            simp [hfill', newRow]
          · rw [← hmc] at hfill'
            simp only [Sem.run_bind, Instr.buildSlice, run_und w (ht.und _ _ hty), Result.andThen_ok, run_size w hi, hs', Sem.run_pure]
            have h1 : ¬ (2 ^ 24 < ln * s) := by omega
            simp [h0, h1, run_zero w hi hzi] at hfill' ⊢
            simp [hfill', newRow]
        · have := lay_cells hh hf (same_alloc w (.cells arr' e (0, 0))) rfl (e := e) (sz := s) (rows := chunk s ln cs) (by rw [chunk_length, hasz]; exact Nat.le_refl _) f2 (by rw [f1]; exact hcr.row)
          rw [chunk_length, hasz] at this
          exact this
  · cases h
/-- Operations that make a block. -/
theorem opNew_sound (ht : t.Ok P) (hh : HR kps w c H) (hA : AR w c n kp R T a) {p nx : Nat} (hf : Free c H p nx) {o : Oper} {r : Tr Blk × (Nat → AV)} (h : (opNew t kp o.op).f R T = some r) : OpN kps P w c H p nx a o r := by
  cases ho : o.op with
  | alloc e =>
    rw [ho] at h
    obtain ⟨zs, hz, h2⟩ := sN_some h
    injection h2 with h2; subst h2
    exact alloc_sound ht hh hf ho hz
  | box e x => rw [ho] at h; exact box_sound hh hA hf ho h
  | buildSlice ty ln parts => rw [ho] at h; exact buildSlice_sound ht hh hA hf ho h
  | makeSlice ty x y => rw [ho] at h; exact makeSlice_sound ht hh hA hf ho h
  | makeMap ty x => rw [ho] at h; exact makeMap_sound ht hh hA hf ho h
  | convert src dst x => rw [ho] at h; exact convNew_sound ht hh hA hf ho h
  | _ => rw [ho] at h; cases h
end
end Go.Drip

/-
Blocks that are written.
-/
set_option linter.unusedVariables false
set_option linter.unusedSimpArgs false
namespace Go.Drip
section
variable {P : Program} {w w' : World} {c : Cx} {n : Nat} {kp : Kp} {R : Rl} {T : Tr AV} {a : Act} {t : Tab} {kps : FuncId → Kp} {H : AH}

theorem HR.get_upd (hh : HR kps w c H) {b b' : Nat} {x : Tr Blk} {y : Blk} (hb : c.D b) (hb' : c.D b') (h : (H.upd b x).get b' = some y) : (b' = b ∧ Tr.get [] x = some y) ∨ (b' ≠ b ∧ H.get b' = some y) := by
  have hN := hh.N b hb
  have hN' := hh.N b' hb'
  have hm := hh.max
  by_cases e : b' = b
  · subst e
    exact .inl ⟨rfl, by rw [← h]; exact (get_put_same x (pathH b') H.tr).symm⟩
  · exact .inr ⟨e, by rw [← AH.get_upd_ne H x (by omega) (by omega) (Ne.symm e)]; exact h⟩

/-- A block is written where it stands, or forgotten. -/
theorem stp_set (hh : HR kps w c H) {b : Nat} {x0 : Blk} (hb : c.D b) (hg : H.get b = some x0) (hp : H.prot ≤ b) (hsame : Same w w') (hsz : w'.heap.size = w.heap.size) (hw : ∀ j, j ≠ c.blk b → w'.heap[j]? = w.heap[j]?) {x1 : Tr Blk}
    (hx : ∀ y, Tr.get [] x1 = some y → BlkR kps w' c b y) : Stp kps w c H w' c (H.upd b x1) := by
  have hS : ∀ j, c.S j → w'.heap[j]? = w.heap[j]? := fun j hj => hw j fun e => hh.own b x0 hb hg (e ▸ hj)
  refine ⟨hsame, Ext.refl c, ⟨hh.N, hh.max, hh.pr, fun b' y hb' hy => ?_, fun b' y hb' hy => ?_, fun b1 b2 y1 y2 h1 h2 g1 g2 he => ?_, fun j hj => by rw [hS j hj]; exact hh.cS j hj⟩, fun j hj hn => hw j fun e => hn b x0 hb hg e.symm, fun b' y hb' hy => ?_, rfl, fun _ h => .inl h, fun _ h => .inl h, Nat.le_refl _, fun b' hb' => ?_⟩
  · rcases hh.get_upd hb hb' hy with ⟨rfl, h⟩ | ⟨hne, h⟩
    · exact hx y h
    · exact (hh.blk b' y hb' h).mono hb' (Ext.refl c) hS (hw _ fun e => hne (hh.inj b' b y x0 hb' hb h hg e))
  · rcases hh.get_upd hb hb' hy with ⟨rfl, h⟩ | ⟨hne, h⟩
    · exact hh.own b' x0 hb' hg
    · exact hh.own b' y hb' h
  · have old : ∀ b' y, c.D b' → (H.upd b x1).get b' = some y → ∃ y', H.get b' = some y' := fun b' y hb' hy => by
      rcases hh.get_upd hb hb' hy with ⟨rfl, h⟩ | ⟨hne, h⟩
      · exact ⟨x0, hg⟩
      · exact ⟨y, h⟩
    obtain ⟨y1', g1'⟩ := old b1 y1 h1 g1
    obtain ⟨y2', g2'⟩ := old b2 y2 h2 g2
    exact hh.inj b1 b2 y1' y2' h1 h2 g1' g2' he
  · left
    rcases hh.get_upd hb hb' hy with ⟨rfl, h⟩ | ⟨hne, h⟩
    · exact ⟨b', x0, hb', hg, rfl⟩
    · exact ⟨b', y, hb', h, rfl⟩
  · have := hh.pr; have := hh.max
    exact AH.get_upd_ne H x1 (by have := hh.N b hb; omega) (by omega) (by omega)

/-- A block is forgotten. -/
theorem stp_drop (hh : HR kps w c H) {b : Nat} {x0 : Blk} (hb : c.D b) (hg : H.get b = some x0) (hp : H.prot ≤ b) : Stp kps w c H w c (H.upd b .nil) :=
  stp_set hh hb hg hp (Same.refl w) rfl (fun _ _ => rfl) fun y hy => by cases hy

/-- A block is written, and another name is given to it. -/
theorem stp_move (hh : HR kps w c H) (hm : H.next < maxH) {b : Nat} {x0 : Blk} (hb : c.D b) (hg : H.get b = some x0) (hp : H.prot ≤ b) (hsame : Same w w') (hsz : w'.heap.size = w.heap.size) (hw : ∀ j, j ≠ c.blk b → w'.heap[j]? = w.heap[j]?) {x1 : Blk} {f s r k : Nat}
    (hx : BlkR kps w' (c.more H.next (c.blk b) f s r k false) H.next x1) : Stp kps w c H w' (c.more H.next (c.blk b) f s r k false) ⟨H.next + 1, H.prot, ((H.upd b .nil).upd H.next (.leaf x1)).tr⟩ := by
  have hbn := hh.N b hb
  have hnd : ¬ c.D H.next := fun h => Nat.lt_irrefl _ (hh.N _ h)
  have hS : ∀ j, c.S j → w'.heap[j]? = w.heap[j]? := fun j hj => hw j fun e => hh.own b x0 hb hg (e ▸ hj)
  have hext := c.more_ext hnd (c.blk b) f s r k false
  have hblk : (c.more H.next (c.blk b) f s r k false).blk H.next = c.blk b := if_pos rfl
  have hget : ∀ b', c.D b' ∨ b' = H.next → ∀ y, (AH.mk (H.next + 1) H.prot ((H.upd b .nil).upd H.next (.leaf x1)).tr).get b' = some y → (b' = H.next ∧ y = x1) ∨ (c.D b' ∧ b' ≠ b ∧ H.get b' = some y) := fun b' hb' y hy => by
    by_cases h : b' = H.next
    · left
      refine ⟨h, ?_⟩
      subst h
      have := get_put_same (.leaf x1) (pathH H.next) (H.upd b .nil).tr
      have e : some y = some x1 := by rw [← hy]; exact this
      injection e
    · right
      have hD := hb'.resolve_right h
      have hbn' := hh.N b' hD
      have e1 := AH.get_upd_ne (H.upd b .nil) (.leaf x1) (b := H.next) (b' := b') hm (by omega) (by omega)
      have hy' : (H.upd b .nil).get b' = some y := by rw [← e1]; exact hy
      rcases hh.get_upd hb hD hy' with ⟨rfl, h'⟩ | ⟨hne, h'⟩
      · cases h'
      · exact ⟨hD, hne, h'⟩
  have hS' : ∀ j, (c.more H.next (c.blk b) f s r k false).S j → c.S j := fun j hj => by
    rcases hj with h | ⟨h, _⟩
    · exact h
    · cases h
  refine ⟨hsame, hext, ⟨fun b' hb' => ?_, hm, Nat.le_trans hh.pr (Nat.le_succ _), fun b' y hb' hy => ?_, fun b' y hb' hy => ?_, fun b1 b2 y1 y2 h1 h2 g1 g2 he => ?_, fun j hj => ?_⟩, fun j hj hn => hw j fun e => hn b x0 hb hg e.symm, fun b' y hb' hy => ?_, rfl, fun k hk => .inl (hS' k hk), fun b' hb' => ?_, Nat.le_succ _, fun b' hb' => ?_⟩
  · rcases hb' with h | rfl
    · exact Nat.lt_succ_of_lt (hh.N b' h)
    · exact Nat.lt_succ_self _
  · rcases hget b' hb' y hy with ⟨rfl, rfl⟩ | ⟨h1, hne, h2⟩
    · exact hx
    · exact (hh.blk b' y h1 h2).mono h1 hext hS (hw _ fun e => hne (hh.inj b' b y x0 h1 hb h2 hg e))
  · rcases hget b' hb' y hy with ⟨rfl, rfl⟩ | ⟨h1, hne, h2⟩
    · rw [hblk]; exact fun h => hh.own b x0 hb hg (hS' _ h)
    · rw [hext.blk b' h1]; exact fun h => hh.own b' y h1 h2 (hS' _ h)
  · rcases hget b1 h1 y1 g1 with ⟨rfl, rfl⟩ | ⟨p1, n1, q1⟩ <;> rcases hget b2 h2 y2 g2 with ⟨rfl, rfl⟩ | ⟨p2, n2, q2⟩
    · rfl
    · rw [hblk, hext.blk b2 p2] at he
      exact absurd (hh.inj b b2 x0 y2 hb p2 hg q2 he).symm n2
    · rw [hblk, hext.blk b1 p1] at he
      exact absurd (hh.inj b1 b y1 x0 p1 hb q1 hg he) n1
    · rw [hext.blk b1 p1, hext.blk b2 p2] at he
      exact hh.inj b1 b2 y1 y2 p1 p2 q1 q2 he
  · rw [hS j (hS' j hj)]; exact hh.cS j (hS' j hj)
  · left
    rcases hget b' hb' y hy with ⟨rfl, rfl⟩ | ⟨h1, hne, h2⟩
    · exact ⟨b, x0, hb, hg, hblk.symm⟩
    · exact ⟨b', y, h1, h2, (hext.blk b' h1).symm⟩
  · rcases hb' with h | rfl
    · exact .inl h
    · exact .inr (Nat.le_refl _)
  · have h1 := hh.pr; have h2 := hh.max
    have e1 := AH.get_upd_ne (H.upd b .nil) (.leaf x1) (b := H.next) (b' := b') hm (by omega) (by omega)
    have e2 := AH.get_upd_ne H .nil (b := b) (b' := b') (by omega) (by omega) (by omega)
    exact e1.trans e2

/-! ### Cells that are written -/
theorem setRow_get {cur : Array Value} {vs : List Value} {o : Nat} (h : o + vs.length ≤ cur.size) (i : Nat) :
    (cur.toList.take o ++ vs ++ cur.toList.drop (o + vs.length)).toArray[i]? = if o ≤ i ∧ i < o + vs.length then vs[i - o]? else cur[i]? := by
  have hl : (cur.toList.take o).length = o := by rw [List.length_take, Array.length_toList]; omega
  rw [List.getElem?_toArray, List.append_assoc]
  by_cases h1 : i < o
  · rw [List.getElem?_append_left (by omega), if_neg (by omega), List.getElem?_take_of_lt h1]; simp
  · rw [List.getElem?_append_right (by omega), hl]
    by_cases h2 : i < o + vs.length
    · rw [List.getElem?_append_left (by omega), if_pos (by omega)]
    · rw [List.getElem?_append_right (by omega), if_neg (by omega), List.getElem?_drop]
      have : o + vs.length + (i - o - vs.length) = i := by omega
      rw [this]; simp
theorem setRow_size {cur : Array Value} {vs : List Value} {o : Nat} (h : o + vs.length ≤ cur.size) : (cur.toList.take o ++ vs ++ cur.toList.drop (o + vs.length)).toArray.size = cur.size := by
  simp; omega
theorem same_setRow (w : World) (g : Nat) (cs : Array Value) : Same w (w.setRow g cs) ∧ (w.setRow g cs).heap.size = w.heap.size ∧ ∀ j, j ≠ g → (w.setRow g cs).heap[j]? = w.heap[j]? :=
  ⟨⟨rfl, rfl, rfl, by simp [World.setRow]⟩, by simp [World.setRow], fun j hj => setRow_other w g j cs hj⟩

/-- Rows and what stands for them. -/
structure RowsV (w : World) (c : Cx) (sz : Nat) (rows : List (List AV)) (vs : List Value) : Prop where
  len : ∀ row ∈ rows, row.length = sz
  size : vs.length = rows.length * sz
  one : ∀ v ∈ vs, v.oneCell' = true
  at_ : ∀ (i : Nat) (u : AV) (v : Value), rows.flatten[i]? = some u → vs[i]? = some v → VR w c u v
theorem RowsV.get {sz : Nat} {rows : List (List AV)} {vs : List Value} (h : RowsV w c sz rows vs) {r : Nat} {row : List AV} (hr : rows[r]? = some row) {k : Nat} {u : AV} (hu : row[k]? = some u) :
    ∃ v, vs[r * sz + k]? = some v ∧ VR w c u v ∧ v.oneCell' = true := by
  have hl := h.len row (List.mem_of_getElem? hr)
  have hk := (List.getElem?_eq_some_iff.1 hu).1
  have hrl := (List.getElem?_eq_some_iff.1 hr).1
  have hlt : r * sz + k < vs.length := by
    rw [h.size]
    have := Nat.mul_le_mul_right sz (Nat.succ_le_of_lt hrl)
    rw [Nat.succ_mul] at this; omega
  have e := List.getElem?_eq_getElem hlt
  exact ⟨_, e, h.at_ _ u _ (by rw [flatten_get h.len hr (by omega)]; exact hu) e, h.one _ (List.getElem_mem hlt)⟩
theorem RowsV.app {sz : Nat} {r1 r2 : List (List AV)} {v1 v2 : List Value} (h1 : RowsV w c sz r1 v1) (h2 : RowsV w c sz r2 v2) : RowsV w c sz (r1 ++ r2) (v1 ++ v2) := by
  have hf1 : r1.flatten.length = v1.length := by rw [flatten_length h1.len, h1.size]
  refine ⟨fun row hr => (List.mem_append.1 hr).elim (h1.len row) (h2.len row), by rw [List.length_append, List.length_append, h1.size, h2.size, Nat.add_mul], fun v hv => (List.mem_append.1 hv).elim (h1.one v) (h2.one v), fun i u v hu hv => ?_⟩
  rw [List.flatten_append] at hu
  by_cases hi : i < v1.length
  · rw [List.getElem?_append_left (by omega)] at hu hv
    exact h1.at_ i u v hu hv
  · rw [List.getElem?_append_right (by omega)] at hu hv
    rw [hf1] at hu
    exact h2.at_ _ u v hu hv
theorem RowsV.row {sz : Nat} {rows : List (List AV)} {vs : List Value} (h : RowsV w c sz rows vs) {arr : Array Value} {o : Nat} (ha : ∀ i v, vs[i]? = some v → arr[o + i]? = some v) : RowR w c arr o rows.flatten := fun k u hu => by
  have hk : k < vs.length := by have := (List.getElem?_eq_some_iff.1 hu).1; rw [flatten_length h.len, ← h.size] at this; exact this
  have e := List.getElem?_eq_getElem hk
  exact ⟨_, ha k _ e, h.at_ k u _ hu e, h.one _ (List.getElem_mem hk)⟩

theorem cellsOf_get {x : Option Blk} {rows : List (List AV)} (h : cellsOf x = some rows) : ∃ e sz, x = some (.cells e sz rows) := by
  obtain ⟨y, rfl, h⟩ := ob_some h
  cases y with
  | cells e sz r => injection h with h; subst h; exact ⟨e, sz, rfl⟩
  | _ => cases h

/-- Rows are written where they stand. -/
theorem inPlace_sound (hh : HR kps w c H) {b at_ sz : Nat} {rows new : List (List AV)} {news : List Value} {e : TypeId} {x r : AV} {H' : AH} (hb : c.D b) (hrows : cellsOf (H.get b) = some rows) (hsz : sz = c.sz b) (hn : RowsV w c sz new news)
    (h : inPlace b e sz rows at_ new x H = .ok r H') : r = x ∧ ∃ w', (storeCells ⟨c.blk b, c.off b + at_ * sz, none⟩ news).run P w = .ok () w' ∧ Stp kps w c H w' c H' ∧ at_ + new.length ≤ rows.length := by
  obtain ⟨h1, h2⟩ := cnd_ok h
  have h1 : at_ + new.length ≤ rows.length := by simpa using Nat.le_of_ble_eq_true h1
  obtain ⟨H1, hs, h3⟩ := rb_ok h2
  obtain ⟨hp, rfl⟩ := AH.set_some hs
  injection h3 with h3 h4
  subst h4
  obtain ⟨arr, e', g1, g2, g3, g4, g5⟩ := hh.rows hb hrows
  obtain ⟨e2, sz2, hgb⟩ := cellsOf_get hrows
  subst hsz
  have hle : c.off b + at_ * c.sz b + news.length ≤ arr.size := by
    rw [hn.size]
    have := Nat.mul_le_mul_right (c.sz b) h1
    rw [Nat.add_mul] at this; omega
  have hrun := run_storeCells_at P (c.blk b) (c.off b + at_ * c.sz b) e' news 0 arr w g1 (by simpa using hle) hn.one
  simp only [Nat.add_zero] at hrun
  obtain ⟨s1, s2, s3⟩ := same_setRow w (c.blk b) (arr.toList.take (c.off b + at_ * c.sz b) ++ news ++ arr.toList.drop (c.off b + at_ * c.sz b + news.length)).toArray
  refine ⟨h3.symm, _, hrun, ?_, h1⟩
  have hS : ∀ j, c.S j → (w.setRow (c.blk b) (arr.toList.take (c.off b + at_ * c.sz b) ++ news ++ arr.toList.drop (c.off b + at_ * c.sz b + news.length)).toArray).heap[j]? = w.heap[j]? := fun j hj => s3 j fun e => hh.own b _ hb hgb (e ▸ hj)
  refine stp_set hh hb hgb hp s1 s2 s3 fun y hy => ?_
  injection hy with hy; subst hy
  refine ⟨rfl, by rw [over_length]; exact g3, _, e', setRow_heap w _ arr _ e' (0, 0) g1, by rw [setRow_size hle]; exact g2, by rw [over_length, setRow_size hle]; exact g4, fun q row hq => ?_⟩
  rw [over_get] at hq
  by_cases hc : at_ ≤ q ∧ q < at_ + new.length ∧ q < rows.length
  · rw [if_pos hc] at hq
    refine ⟨hn.len row (List.mem_of_getElem? hq), fun k u hu => ?_⟩
    obtain ⟨v, hv1, hv2, hv3⟩ := hn.get hq hu
    have hvl := (List.getElem?_eq_some_iff.1 hv1).1
    refine ⟨v, ?_, hv2.mono (Ext.refl c) hS, hv3⟩
    have e1 : c.off b + q * c.sz b + k = c.off b + at_ * c.sz b + ((q - at_) * c.sz b + k) := by
      have : q * c.sz b = at_ * c.sz b + (q - at_) * c.sz b := by rw [← Nat.add_mul]; congr 1; omega
      omega
    rw [setRow_get hle, if_pos (by omega), e1]
    have e2 : c.off b + at_ * c.sz b + ((q - at_) * c.sz b + k) - (c.off b + at_ * c.sz b) = (q - at_) * c.sz b + k := by omega
    rw [e2]; exact hv1
  · rw [if_neg hc] at hq
    obtain ⟨h5, h6⟩ := g5 q row hq
    refine ⟨h5, fun k u hu => ?_⟩
    obtain ⟨v, hv1, hv2, hv3⟩ := h6 k u hu
    refine ⟨v, ?_, hv2.mono (Ext.refl c) hS, hv3⟩
    have hk := (List.getElem?_eq_some_iff.1 hu).1
    have hql := (List.getElem?_eq_some_iff.1 hq).1
    have hv1' : arr[c.off b + q * c.sz b + k]? = some v := by
      simp only [World.cell?, g1] at hv1
      simpa using hv1
    rw [setRow_get hle, if_neg ?_]
    · exact hv1'
    · rw [hn.size]
      intro hcon
      rcases Nat.lt_or_ge q at_ with hlt | hge
      · have := Nat.mul_le_mul_right (c.sz b) (Nat.succ_le_of_lt hlt)
        rw [Nat.succ_mul] at this
        omega
      · have hge2 : at_ + new.length ≤ q := by
          rcases Nat.lt_or_ge q (at_ + new.length) with h | h
          · exact absurd ⟨hge, h, hql⟩ hc
          · exact h
        have := Nat.mul_le_mul_right (c.sz b) hge2
        rw [Nat.add_mul] at this
        omega
end
end Go.Drip

/-
Append, copy, clear.
-/
set_option linter.unusedVariables false
set_option linter.unusedSimpArgs false
namespace Go.Drip
section
variable {P : Program} {w w' : World} {c : Cx} {n : Nat} {kp : Kp} {R : Rl} {T : Tr AV} {a : Act} {t : Tab} {kps : FuncId → Kp} {H : AH}

/-- Rows of a slice, as the program reads them. -/
def Reads (P : Program) (w : World) (c : Cx) (s : Nat) (rows : List (List AV)) (v : Value) : Prop :=
  ∃ A k, v = .slice A rows.length k ∧ ∀ m, m ≤ rows.length → ∃ vs, RowsV w c s (rows.take m) vs ∧ ∀ w1, w1.heap = w.heap → (Builtin.firstCells s m v).run P w1 = .ok vs.toArray w1

theorem reads_of {s m k : Nat} {rows : List (List AV)} {A : Addr} (hlen : ∀ row ∈ rows, row.length = s) (hm : ∀ (r : Nat) (row : List AV), rows[r]? = some row → ∀ (j : Nat) (u : AV), row[j]? = some u → ∃ v, w.cell? (A.add (r * s + j)) = some v ∧ VR w c u v ∧ v.oneCell' = true) :
    Reads P w c s rows (.slice (some A) rows.length k) := by
  refine ⟨_, _, rfl, fun m hml => ?_⟩
  let f : Nat → Value := fun j => (w.cell? (A.add j)).getD undef
  have hlen' : ∀ row ∈ rows.take m, row.length = s := fun row hr => hlen row (List.mem_of_mem_take hr)
  have key : ∀ j, j < m * s → ∃ v u, w.cell? (A.add j) = some v ∧ (rows.take m).flatten[j]? = some u ∧ VR w c u v ∧ v.oneCell' = true := fun j hj => by
    have hs : 0 < s := by rcases Nat.eq_zero_or_pos s with h | h; · subst h; omega
                          · exact h
    have hq : j / s < m := Nat.div_lt_of_lt_mul (by rw [Nat.mul_comm]; exact hj)
    have hql : j / s < rows.length := by omega
    have hrow := List.getElem?_eq_getElem hql
    have hmod := Nat.mod_lt j hs
    have hl := hlen _ (List.getElem_mem hql)
    have hu := List.getElem?_eq_getElem (l := rows[j / s]) (i := j % s) (by omega)
    obtain ⟨v, h1, h2, h3⟩ := hm _ _ hrow _ _ hu
    have e : j / s * s + j % s = j := by rw [Nat.mul_comm]; exact Nat.div_add_mod j s
    rw [e] at h1
    refine ⟨v, _, h1, ?_, h2, h3⟩
    have hrow' : (rows.take m)[j / s]? = some rows[j / s] := by rw [List.getElem?_take_of_lt hq]; exact hrow
    have := flatten_get hlen' hrow' hmod
    rw [e] at this
    rw [this]; exact hu
  have hlf : (rows.take m).length = m := by rw [List.length_take]; omega
  refine ⟨(List.range (m * s)).map f, ⟨hlen', by simp [hlf], fun v hv => ?_, fun i u v hu hv => ?_⟩, fun w1 hw1 => ?_⟩
  · obtain ⟨j, hj, rfl⟩ := List.mem_map.1 hv
    obtain ⟨v, u, h1, _, _, h3⟩ := key j (List.mem_range.1 hj)
    simp [f, h1, h3]
  · have hi : i < m * s := by have := (List.getElem?_eq_some_iff.1 hv).1; simpa using this
    obtain ⟨v', u', h1, h2, h3, _⟩ := key i hi
    rw [h2] at hu; injection hu with hu; subst hu
    simp [hi] at hv
    rw [← hv]; simp [f, h1, h3]
  · refine run_firstCells_some (P := P) w1 s m A _ _ _ (by simp) fun j v hv => ?_
    have hj : j < m * s := by have := (List.getElem?_eq_some_iff.1 hv).1; simpa using this
    simp [hj] at hv
    obtain ⟨v', u', h1, _⟩ := key j hj
    have : w1.cell? (A.add j) = w.cell? (A.add j) := by simp only [World.cell?, hw1]
    rw [this, h1, ← hv]; simp [f, h1]
theorem reads_nil {s : Nat} {A : Option Addr} {k : Nat} : Reads P w c s [] (.slice A 0 k) := by
  refine ⟨_, _, rfl, fun m hm => ⟨[], ⟨fun row hr => by simp at hr, by simp, fun v hv => by simp at hv, fun i u v hu => by simp at hu⟩, fun w1 hw1 => ?_⟩⟩
  have : m = 0 := by simpa using hm
  subst this
  cases A with
  | none => rfl
  | some A => exact run_firstCells_some (P := P) w1 s 0 A _ _ [] (by simp) fun j v hv => by simp at hv

theorem rowsIn_some {rows rs : List (List AV)} {r n : Nat} (h : rowsIn rows r n = some rs) : rs = (rows.drop r).take n ∧ rs.length = n := by
  unfold rowsIn at h
  simp only [tak_eq, drp_eq] at h
  obtain ⟨rfl, hl⟩ := lenIs_some h
  exact ⟨rfl, hl⟩
/-- Rows of a block. -/
theorem block_reads (hh : HR kps w c H) {b r n k : Nat} {rows rs : List (List AV)} (hb : c.D b) (hrows : cellsOf (H.get b) = some rows) (h : rowsIn rows r n = some rs) :
    Reads P w c (c.sz b) rs (.slice (some ⟨c.blk b, c.off b + r * c.sz b, none⟩) n k) := by
  obtain ⟨e1, hl⟩ := rowsIn_some h
  obtain ⟨arr, e', g1, g2, g3, g4, g5⟩ := hh.rows hb hrows
  have hget : ∀ (q : Nat) (row : List AV), rs[q]? = some row → rows[r + q]? = some row := fun q row hq => by
    have hql := (List.getElem?_eq_some_iff.1 hq).1
    rw [e1, List.getElem?_take_of_lt (by omega), List.getElem?_drop] at hq
    exact hq
  have := reads_of (P := P) (w := w) (c := c) (s := c.sz b) (m := 0) (k := k) (rows := rs) (A := ⟨c.blk b, c.off b + r * c.sz b, none⟩) (fun row hr => by
    obtain ⟨q, hq⟩ := List.getElem?_of_mem hr
    exact (g5 _ _ (hget q row hq)).1) (fun q row hq j u hu => by
    obtain ⟨_, hm⟩ := g5 _ _ (hget q row hq)
    obtain ⟨v, h1, h2, h3⟩ := hm j u hu
    refine ⟨v, ?_, h2, h3⟩
    rw [addr_add, ← h1]
    congr 2
    rw [Nat.add_mul]; omega)
  rw [hl] at this
  exact this
theorem rowsOf_sound (hh : HR kps w c H) {s : Nat} {x : AV} {v : Value} {rows : List (List AV)} (hv : VR w c x v) (h : rowsOf s H x = some rows) : Reads P w c s rows v := by
  rcases onSl_some h with ⟨b, r, n, s', q, rfl, h2⟩ | ⟨s', n, f, rfl, h2⟩ | ⟨rfl, h2⟩ | ⟨rfl, h2⟩
  · obtain ⟨c1, h3⟩ := cnd_some h2
    obtain ⟨rows0, hr0, h4⟩ := ob_some h3
    have := Nat.eq_of_beq_eq_true c1; subst this
    cases hv with
    | sl _ _ _ _ _ k hb hs hn hc hr hk => rw [hs]; exact block_reads hh hb hr0 h4
    | sl0 =>
      have := (rowsIn_some h4).2
      rw [List.eq_nil_of_length_eq_zero this]; exact reads_nil
  · obtain ⟨c1, h3⟩ := cnd_some h2
    have := Nat.eq_of_beq_eq_true c1; subst this
    injection h3 with h3
    rw [tabl_eq] at h3
    cases hv with
    | imm _ _ _ g o k vals hk hs hl hc h1 hvv =>
      have hrl : rows.length = n := by rw [← h3]; simp
      have hget : ∀ (q : Nat) (row : List AV), rows[q]? = some row → q < n ∧ row = f q := fun q row hq => by
        have hql := (List.getElem?_eq_some_iff.1 hq).1
        rw [← h3, List.getElem?_map] at hq
        obtain ⟨i, hi, rfl⟩ := Option.map_eq_some_iff.1 hq
        have := (List.getElem?_eq_some_iff.1 hi).2
        simp at this
        subst this
        exact ⟨by omega, rfl⟩
      have := reads_of (P := P) (w := w) (c := c) (s := s) (m := 0) (k := k) (rows := rows) (A := ⟨g, o, none⟩) (fun row hr => by
        obtain ⟨q, hq⟩ := List.getElem?_of_mem hr
        obtain ⟨h1, rfl⟩ := hget q row hq
        exact hl q h1) (fun q row hq j u hu => by
        obtain ⟨hq1, rfl⟩ := hget q row hq
        have hj : j < s := by have := (List.getElem?_eq_some_iff.1 hu).1; rw [hl q hq1] at this; exact this
        exact ⟨vals q j, by rw [addr_add]; exact hc q j hq1 hj, hvv q j u hq1 hu, h1 q j hq1 hj⟩)
      rw [hrl] at this
      exact this
    | immz =>
      have : rows = [] := by rw [← h3]; rfl
      rw [this]; exact reads_nil
  · injection h2 with h2; subst h2
    cases hv with | z A => exact reads_nil
  · injection h2 with h2; subst h2
    cases hv with | nils => exact reads_nil
end
end Go.Drip

