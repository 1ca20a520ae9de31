import Derived.Test.YtadmkkbgdbcjiaaGreatLib05
/-
Append, store, copy, clear and maps in the evaluator. No condition.
-/
/-
Append: what the evaluator says.
-/
set_option linter.unusedVariables false
set_option linter.unusedSimpArgs false
namespace Go.Drip
section
variable {P : Program} {w w' : World} {c : Cx} {n : Nat} {kp : Kp} {R : Rl} {T : Tr AV} {a : Act} {t : Tab} {kps : FuncId → Kp} {H : AH}

theorem same_grow (w : World) (o : Obj) : Same w (w.drew.alloc o) := ⟨rfl, rfl, rfl, by show _ ≤ (w.heap.push o).size; simp⟩

theorem fresh_sound (hh : HR kps w c H) {e : TypeId} {sz cap : Nat} {rows : List (List AV)} {vals : List Value} {rest : Array Value} {r : AV} {H' : AH} (hv : RowsV w c sz rows vals) (hc : rows.length ≤ cap) (hs : vals.length + rest.size = cap * sz)
    (h : freshA e sz rows H = .ok r H') : ∃ c', VR (w.drew.alloc (.cells (vals.toArray ++ rest) e (0, 0))) c' r (.slice (some ⟨w.heap.size, 0, none⟩) rows.length cap) ∧ Stp kps w c H (w.drew.alloc (.cells (vals.toArray ++ rest) e (0, 0))) c' H' := by
  obtain ⟨_, h1⟩ := cnd_ok h
  obtain ⟨hm, h2⟩ := AH.new_ok h1
  injection h2 with h2 h3
  subst h2; subst h3
  have hsz : (vals.toArray ++ rest).size = cap * sz := by simp [hs]
  refine ⟨c.more H.next w.heap.size 0 sz rows.length (vals.toArray ++ rest).size false, ?_, ?_⟩
  · rw [len_eq]
    exact sl_new _ _ rows.length sz cap rows.length none hc (fun q hq => by cases hq) (fun _ => hc) (by omega)
  · refine Lay.stp (lay_cells hh (hh.free hm) (same_grow _ _) rfl (by rw [hsz]; exact Nat.mul_le_mul_right _ hc) hv.len (hv.row fun i v hi => ?_)) (Stp.refl hh) (Nat.le_refl _) (hh.free hm)
    have := (List.getElem?_eq_some_iff.1 hi).1
    rw [Nat.zero_add, Array.getElem?_append_left (by simpa using this)]
    simpa using hi

theorem reads_whole {s : Nat} {rows : List (List AV)} {v : Value} (h : Reads P w c s rows v) : ∃ vs, RowsV w c s rows vs ∧ ∀ w1, w1.heap = w.heap → (Builtin.firstCells s rows.length v).run P w1 = .ok vs.toArray w1 := by
  obtain ⟨A, k, rfl, h⟩ := h
  obtain ⟨vs, h1, h2⟩ := h rows.length (Nat.le_refl _)
  rw [List.take_length] at h1
  exact ⟨vs, h1, h2⟩

/-- Rows are written behind others, into spare room. -/
theorem move_sound (hh : HR kps w c H) {b r n k sz : Nat} {e : TypeId} {rows old new : List (List AV)} {news : List Value} {x : AV} {H1 H' : AH} (hb : c.D b) (hrows : cellsOf (H.get b) = some rows) (hold : rowsIn rows r n = some old) (hsz : sz = c.sz b) (hn : RowsV w c sz new news)
    (hk : c.off b + (r + k) * c.sz b ≤ c.cells b) (hnk : n + new.length ≤ k) (hset : H.set b .nil = some H1) (h : freshA e sz (old ++ new) H1 = .ok x H') :
    ∃ w' c', (storeCells ⟨c.blk b, c.off b + r * sz + n * sz, none⟩ news).run P w = .ok () w' ∧ VR w' c' x (.slice (some ⟨c.blk b, c.off b + r * sz, none⟩) (n + new.length) k) ∧ Stp kps w c H w' c' H' := by
  subst hsz
  obtain ⟨hp, rfl⟩ := AH.set_some hset
  obtain ⟨_, h1⟩ := cnd_ok h
  obtain ⟨hm, h2⟩ := AH.new_ok h1
  injection h2 with h2 h3
  subst h2; subst h3
  have hm : H.next < maxH := hm
  obtain ⟨arr, e', g1, g2, g3, g4, g5⟩ := hh.rows hb hrows
  obtain ⟨e2, sz2, hgb⟩ := cellsOf_get hrows
  obtain ⟨hold1, hold2⟩ := rowsIn_some hold
  have hlen : (old ++ new).length = n + new.length := by rw [List.length_append, hold2]
  have hle : c.off b + r * c.sz b + n * c.sz b + news.length ≤ arr.size := by
    rw [hn.size, g2]
    have := Nat.mul_le_mul_right (c.sz b) (Nat.add_le_add_left hnk r)
    simp only [Nat.add_mul] at this hk; omega
  have hrun := run_storeCells_at P (c.blk b) (c.off b + r * c.sz b + n * c.sz b) e' news 0 arr w g1 (by simpa using hle) hn.one
  simp only [Nat.add_zero] at hrun
  obtain ⟨s1, s2, s3⟩ := same_setRow w (c.blk b) (arr.toList.take (c.off b + r * c.sz b + n * c.sz b) ++ news ++ arr.toList.drop (c.off b + r * c.sz b + n * c.sz b + news.length)).toArray
  have hext := c.more_ext (fun h => Nat.lt_irrefl _ (hh.N _ h) : ¬ c.D H.next) (c.blk b) (c.off b + r * c.sz b) (c.sz b) (n + new.length) (c.cells b) false
  have hS : ∀ j, c.S j → (w.setRow (c.blk b) (arr.toList.take (c.off b + r * c.sz b + n * c.sz b) ++ news ++ arr.toList.drop (c.off b + r * c.sz b + n * c.sz b + news.length)).toArray).heap[j]? = w.heap[j]? := fun j hj => s3 j fun e => hh.own b _ hb hgb (e ▸ hj)
  refine ⟨_, c.more H.next (c.blk b) (c.off b + r * c.sz b) (c.sz b) (n + new.length) (c.cells b) false, hrun, ?_, stp_move hh hm hb hgb hp s1 s2 s3 ?_⟩
  · have hx := VR.sl (w := w.setRow (c.blk b) (arr.toList.take (c.off b + r * c.sz b + n * c.sz b) ++ news ++ arr.toList.drop (c.off b + r * c.sz b + n * c.sz b + news.length)).toArray) (c := c.more H.next (c.blk b) (c.off b + r * c.sz b) (c.sz b) (n + new.length) (c.cells b) false)
      H.next 0 (n + new.length) (c.sz b) none k (.inr rfl) (if_pos rfl).symm hnk (fun q hq => by cases hq) (fun _ => by show (if H.next = H.next then _ else _) ≤ _; rw [if_pos rfl]; omega)
      (by show (if H.next = H.next then _ else _) + _ * (if H.next = H.next then _ else _) ≤ (if H.next = H.next then _ else _)
          simp only [if_true]
          simp only [Nat.add_mul, Nat.zero_mul] at hk ⊢; omega)
    have e1 : (H.upd b .nil).next = H.next := rfl
    rw [e1, len_eq, hlen]
    simpa [Cx.more] using hx
  · refine BlkR.flat (if_pos rfl).symm ?_ (e' := e') (arr := (arr.toList.take (c.off b + r * c.sz b + n * c.sz b) ++ news ++ arr.toList.drop (c.off b + r * c.sz b + n * c.sz b + news.length)).toArray) ?_ ?_ ?_ ?_ ?_
    · show _ = (if H.next = H.next then _ else _)
      rw [if_pos rfl, hlen]
    · show (World.setRow _ _ _).heap[if H.next = H.next then _ else _]? = _
      rw [if_pos rfl]; exact setRow_heap w _ arr _ e' (0, 0) g1
    · show _ = (if H.next = H.next then _ else _)
      rw [if_pos rfl, setRow_size hle]; exact g2
    · show (if H.next = H.next then _ else _) + _ ≤ _
      rw [if_pos rfl, setRow_size hle, hlen]
      have := hn.size
      simp only [Nat.add_mul] at hle ⊢; omega
    · intro row hr
      rcases List.mem_append.1 hr with hr | hr
      · obtain ⟨q, hq⟩ := List.getElem?_of_mem hr
        have hql := (List.getElem?_eq_some_iff.1 hq).1
        rw [hold1, List.getElem?_take_of_lt (by omega), List.getElem?_drop] at hq
        exact (g5 _ _ hq).1
      · exact hn.len row hr
    · show RowR _ _ _ (if H.next = H.next then _ else _) _
      rw [if_pos rfl, List.flatten_append]
      have hol : ∀ row ∈ old, row.length = c.sz b := fun row hr => by
        obtain ⟨q, hq⟩ := List.getElem?_of_mem hr
        have hql := (List.getElem?_eq_some_iff.1 hq).1
        rw [hold1, List.getElem?_take_of_lt (by omega), List.getElem?_drop] at hq
        exact (g5 _ _ hq).1
      have hfl : old.flatten.length = n * c.sz b := by rw [flatten_length hol, hold2]
      intro i u hu
      rcases Nat.lt_or_ge i (n * c.sz b) with hi | hi
      · rw [List.getElem?_append_left (by omega)] at hu
        have hs0 : 0 < c.sz b := by rcases Nat.eq_zero_or_pos (c.sz b) with h | h
                                    · rw [h] at hi; omega
                                    · exact h
        have hq : i / c.sz b < n := Nat.div_lt_of_lt_mul (by rw [Nat.mul_comm]; exact hi)
        have hqo : i / c.sz b < old.length := by omega
        have hrow := List.getElem?_eq_getElem hqo
        have hfg := flatten_get hol hrow (Nat.mod_lt i hs0)
        have ei : i / c.sz b * c.sz b + i % c.sz b = i := by rw [Nat.mul_comm]; exact Nat.div_add_mod i _
        rw [ei] at hfg
        rw [hfg] at hu
        have hrow2 : rows[r + i / c.sz b]? = some old[i / c.sz b] := by
          rw [← hrow, hold1, List.getElem?_take_of_lt hq, List.getElem?_drop]
        obtain ⟨v, h4, h5, h6⟩ := (g5 _ _ hrow2).2 _ u hu
        refine ⟨v, ?_, h5.mono hext hS, h6⟩
        rw [setRow_get hle, if_neg (by omega)]
        simp only [World.cell?, g1] at h4
        have e3 : c.off b + (r + i / c.sz b) * c.sz b + i % c.sz b = c.off b + r * c.sz b + i := by rw [Nat.add_mul]; omega
        rw [e3] at h4
        simpa using h4
      · rw [List.getElem?_append_right (by omega), hfl] at hu
        have hnl : i - n * c.sz b < news.length := by have := (List.getElem?_eq_some_iff.1 hu).1; rw [flatten_length hn.len, ← hn.size] at this; exact this
        have hv := List.getElem?_eq_getElem hnl
        refine ⟨_, ?_, (hn.at_ _ u _ hu hv).mono hext hS, hn.one _ (List.getElem_mem hnl)⟩
        rw [setRow_get hle, if_pos (by omega)]
        have e3 : c.off b + r * c.sz b + i - (c.off b + r * c.sz b + n * c.sz b) = i - n * c.sz b := by omega
        rw [e3]; exact hv
end
end Go.Drip

/-
Operations that write memory.
-/
set_option linter.unusedVariables false
set_option linter.unusedSimpArgs false
namespace Go.Drip
open Go.MapKept
section
variable {P : Program} {w w' : World} {c : Cx} {n : Nat} {kp : Kp} {R : Rl} {T : Tr AV} {a : Act} {t : Tab} {kps : FuncId → Kp} {H : AH}

/-- What an operation that writes memory comes to. -/
def OpM (kps : FuncId → Kp) (P : Program) (w : World) (c : Cx) (H : AH) (a : Act) (o : Oper) (x : AV) (H' : AH) : Prop :=
  ∃ v w' c', ((execOp a.eval o).run P w = .ok (.value v) w' ∨ ((execOp a.eval o).run P w = .ok .skip w' ∧ v = undef)) ∧ VR w' c' x v ∧ Stp kps w c H w' c' H'

theorem appendA_sound (hh : HR kps w c H) {ty xt e o : TypeId} {i : TypeInfo} {z : Value} {s r : AV} {sv xv : Value} {new : List (List AV)} {news : List Value} {H' : AH} (ht : P.underlying ty = some (.slice e)) (hi : P.info? e = some i) (hz : i.zero = some z)
    (hzs : z.cells.size = i.size) (hby : i.bytes ≤ 16777216) (hs : VR w c s sv) (hn : RowsV w c i.size new news) (hx : Adds P w e i.size xt xv new.length news) (h : appendA e i.size H s new = .ok r H') :
    ∃ v w' c', (Builtin.append_ #[ty, xt] o #[sv, xv]).run P w = .ok v w' ∧ VR w' c' r v ∧ Stp kps w c H w' c' H' := by
  have grow : ∀ {H1 : AH} (A : Option Addr) (m k : Nat) (old : List (List AV)), HR kps w c H1 → Stp kps w c H w c H1 → sv = .slice A m k → old.length = m → ¬ m + new.length ≤ k → Reads P w c i.size old sv → freshA e i.size (old ++ new) H1 = .ok r H' →
      ∃ v w' c', (Builtin.append_ #[ty, xt] o #[sv, xv]).run P w = .ok v w' ∧ VR w' c' r v ∧ Stp kps w c H w' c' H' := fun A m k old hh1 hst hsv hol hgr hrd hf => by
    obtain ⟨olds, hov, hof⟩ := reads_whole hrd
    obtain ⟨hlim, _⟩ := cnd_ok hf
    have hlim : (old ++ new).length ≤ 4194304 := by simpa using Nat.le_of_ble_eq_true hlim
    have hlen : (old ++ new).length = m + new.length := by rw [List.length_append, hol]
    rw [hlen] at hlim
    subst hsv
    have hrun := run_append_out (P := P) (o := o) (A := A) (k := k) (n := m) (olds := olds) ht hi hz hby hx hgr hlim (by have := hof w.drew rfl; rw [hol] at this; exact this)
    have hge := grownCap_ge w (m + new.length) k e
    obtain ⟨c', hv, hst2⟩ := fresh_sound hh1 (rest := Builtin.zeroCells z.cells (grownCap w (m + new.length) k e - (m + new.length))) (cap := grownCap w (m + new.length) k e) (hov.app hn) (by rw [hlen]; exact hge) (by
      rw [size_zeroCells, hzs, (hov.app hn).size, hlen, ← Nat.add_mul]; congr 1; omega) hf
    refine ⟨_, _, c', hrun, ?_, hst.trans ?_⟩
    · rw [hlen] at hv; simpa using hv
    · simpa using hst2
  rcases onSl_ok h with ⟨b, q, m, s', cap, rfl, h2⟩ | ⟨s', m, f, rfl, h2⟩ | ⟨rfl, h2⟩ | ⟨rfl, h2⟩
  · obtain ⟨c1, h3⟩ := cnd_ok h2
    obtain ⟨rows, hrows, h4⟩ := rb_ok h3
    have := Nat.eq_of_beq_eq_true c1; subst this
    cases hs with
    | sl _ _ _ _ _ k hb hsz hmk hc hr hk =>
      have inp : ∀ x, (n : Nat) → n = m + new.length → m + new.length ≤ k → inPlace b e i.size rows (Nat.add q m) new x H = .ok r H' → x = .sl b q n i.size cap →
          ∃ v w' c', (Builtin.append_ #[ty, xt] o #[.slice (some ⟨c.blk b, c.off b + q * c.sz b, none⟩) m k, xv]).run P w = .ok v w' ∧ VR w' c' r v ∧ Stp kps w c H w' c' H' := fun x n hn' hroom hin hx' => by
        obtain ⟨rfl, w', hrun, hst, _⟩ := inPlace_sound (P := P) hh hb hrows hsz hn hin
        subst hn'
        refine ⟨_, w', c, run_append_in (P := P) (o := o) ht hi hx hroom (fun ad had => ?_) (fun h => by cases h), ?_, hst⟩
        · injection had with had; subst had
          rw [addr_add, ← hsz]
          have e1 : c.off b + q * i.size + m * i.size = c.off b + Nat.add q m * i.size := by show _ = c.off b + (q + m) * i.size; rw [Nat.add_mul]; omega
          rw [e1]; exact hrun
        · subst hx'
          exact (VR.sl b q (m + new.length) i.size cap k hb hsz hroom hc hr hk)
      cases cap with
      | none =>
        have hrk := hr rfl
        obtain ⟨_, _, _, _, g3, _, _⟩ := hh.rows hb hrows
        change cnd _ _ _ = _ at h4
        cases hc1 : Nat.ble (Nat.add q (Nat.add m (len new))) (len rows) with
        | true =>
          rw [hc1] at h4
          have hle := Nat.le_of_ble_eq_true hc1
          simp only [len_eq] at hle
          have hle : q + (m + new.length) ≤ rows.length := hle
          exact inp _ _ (by rw [len_eq]; rfl) (by omega) h4 rfl
        | false =>
          rw [hc1] at h4
          obtain ⟨old, hold, h5⟩ := rb_ok h4
          obtain ⟨H1, hset, h6⟩ := rb_ok h5
          rw [app_eq] at h6
          by_cases hroom : m + new.length ≤ k
          · obtain ⟨w', c', hrun, hv, hst⟩ := move_sound (P := P) hh hb hrows hold hsz hn hk hroom hset h6
            refine ⟨_, w', c', run_append_in (P := P) (o := o) ht hi hx hroom (fun ad had => ?_) (fun h => by cases h), ?_, hst⟩
            · injection had with had; subst had
              rw [addr_add, ← hsz]; exact hrun
            · rw [← hsz]; exact hv
          · obtain ⟨hp, rfl⟩ := AH.set_some hset
            obtain ⟨e2, sz2, hgb⟩ := cellsOf_get hrows
            have hst := stp_drop hh hb hgb hp
            have hrd : Reads P w c i.size old (.slice (some ⟨c.blk b, c.off b + q * c.sz b, none⟩) m k) := by rw [hsz]; exact block_reads hh hb hrows hold
            exact grow _ m k old hst.hr hst rfl (rowsIn_some hold).2 hroom hrd h6
      | some m0 =>
        have hkm := hc m0 rfl
        change cnd _ _ _ = _ at h4
        cases hc1 : Nat.ble (Nat.add m (len new)) m0 with
        | true =>
          rw [hc1] at h4
          have hle := Nat.le_of_ble_eq_true hc1
          simp only [len_eq] at hle
          have hle : m + new.length ≤ m0 := hle
          exact inp _ _ (by rw [len_eq]; rfl) (by omega) h4 rfl
        | false =>
          rw [hc1] at h4
          obtain ⟨old, hold, h5⟩ := rb_ok h4
          rw [app_eq] at h5
          have hno : ¬ m + new.length ≤ k := fun hle => by
            have : Nat.ble (Nat.add m (len new)) m0 = true := Nat.ble_eq_true_of_le (by rw [len_eq]; show m + new.length ≤ m0; omega)
            rw [hc1] at this; cases this
          have hrd : Reads P w c i.size old (.slice (some ⟨c.blk b, c.off b + q * c.sz b, none⟩) m k) := by rw [hsz]; exact block_reads hh hb hrows hold
          exact grow _ m k old hh (Stp.refl hh) rfl (rowsIn_some hold).2 hno hrd h5
    | sl0 _ _ _ hb hsz hr g o' =>
      obtain ⟨_, _, _, _, g3, _, _⟩ := hh.rows hb hrows
      change cnd _ _ _ = _ at h4
      cases hc1 : Nat.ble (Nat.add q (Nat.add 0 (len new))) (len rows) with
      | true =>
        rw [hc1] at h4
        have hle := Nat.le_of_ble_eq_true hc1
        simp only [len_eq] at hle
        have hle : q + (0 + new.length) ≤ rows.length := hle
        have hnw : new = [] := List.eq_nil_of_length_eq_zero (by omega)
        subst hnw
        have hns : news = [] := List.eq_nil_of_length_eq_zero (by have := hn.size; simpa using this)
        subst hns
        obtain ⟨rfl, w', hrun, hst, _⟩ := inPlace_sound (P := P) hh hb hrows hsz hn h4
        have hww : w' = w := by simpa [storeCells] using hrun.symm
        subst hww
        exact ⟨_, w', c, run_append_in (P := P) (o := o) (k := 0) (n := 0) (A := some ⟨g, o', none⟩) ht hi hx (Nat.le_refl _) (fun _ _ => rfl) (fun h => by cases h), .sl0 b q i.size hb hsz hr g o', hst⟩
      | false =>
        rw [hc1] at h4
        obtain ⟨old, hold, h5⟩ := rb_ok h4
        obtain ⟨H1, hset, h6⟩ := rb_ok h5
        rw [app_eq] at h6
        obtain ⟨hp, rfl⟩ := AH.set_some hset
        obtain ⟨e2, sz2, hgb⟩ := cellsOf_get hrows
        have hst := stp_drop hh hb hgb hp
        have hol := (rowsIn_some hold).2
        have : old = [] := List.eq_nil_of_length_eq_zero hol
        subst this
        exact grow _ 0 0 [] hst.hr hst rfl rfl (fun hle => by
          have : Nat.ble (Nat.add q (Nat.add 0 (len new))) (len rows) = true := Nat.ble_eq_true_of_le (by rw [len_eq, len_eq]; show q + (0 + new.length) ≤ rows.length; omega)
          rw [hc1] at this; cases this) reads_nil h6
  · have nothing : new = [] → news = [] := fun h => by have := hn.size; rw [h] at this; exact List.eq_nil_of_length_eq_zero (by simpa using this)
    cases new with
    | cons p l => cases h2
    | nil =>
      have := nothing rfl; subst this
      injection h2 with h2 h3; subst h2; subst h3
      cases hs with
      | imm _ _ _ g o' k vals hk hs' hl hc h1 hv =>
        exact ⟨_, w, c, run_append_in (P := P) (o := o) (k := k) (n := m) (A := some ⟨g, o', none⟩) ht hi hx (by simpa using hk) (fun _ _ => rfl) (fun h => by cases h), .imm s' m f g o' k vals hk hs' hl hc h1 hv, Stp.refl hh⟩
      | immz _ _ A k hA =>
        exact ⟨_, w, c, run_append_in (P := P) (o := o) (k := k) (n := 0) (A := A) ht hi hx (by simp) (fun _ _ => rfl) (fun _ => rfl), .immz s' f A k hA, Stp.refl hh⟩
  · cases hs with
    | z A =>
      cases new with
      | nil =>
        have hnn : news = [] := List.eq_nil_of_length_eq_zero (by have := hn.size; simpa using this)
        subst hnn
        injection h2 with h2 h3; subst h2; subst h3
        exact ⟨_, w, c, run_append_in (P := P) (o := o) (k := 0) (n := 0) (A := A) ht hi hx (Nat.le_refl _) (fun _ _ => rfl) (fun _ => rfl), .z A, Stp.refl hh⟩
      | cons p l => exact grow A 0 0 [] hh (Stp.refl hh) rfl rfl (by simp) reads_nil h2
  · cases hs with
    | nils =>
      cases new with
      | nil =>
        have hnn : news = [] := List.eq_nil_of_length_eq_zero (by have := hn.size; simpa using this)
        subst hnn
        injection h2 with h2 h3; subst h2; subst h3
        exact ⟨_, w, c, run_append_in (P := P) (o := o) (k := 0) (n := 0) (A := none) ht hi hx (Nat.le_refl _) (fun _ _ => rfl) (fun _ => rfl), .nils, Stp.refl hh⟩
      | cons p l => exact grow none 0 0 [] hh (Stp.refl hh) rfl rfl (by simp) reads_nil h2

theorem sW_ok {α : Type} {x : Option α} {f : α → Box PW} {r : AV} {H' : AH} (h : (sW x f).f R T H = .ok r H') : ∃ y, x = some y ∧ (f y).f R T H = .ok r H' := by cases x with | none => cases h | some y => exact ⟨y, rfl, h⟩
theorem cndW_ok {b : Bool} {f : Box PW} {r : AV} {H' : AH} (h : (cnd b f noW).f R T H = .ok r H') : b = true ∧ f.f R T H = .ok r H' := by cases b with | false => cases h | true => exact ⟨rfl, h⟩

theorem append_sound (ht : t.Ok P) (hh : HR kps w c H) (hA : AR w c n kp R T a) {o : Oper} {cl : Call} (ho : o.op = .call cl) (hb : cl.callee = .builtin .append) {ty xt : TypeId} {s x : Operand} (hty : cl.argTypes.toList = [ty, xt]) (hx : cl.args.toList = [s, x])
    {r : AV} {H' : AH} (h : (appendS t kp ty xt s x).f R T H = .ok r H') : OpM kps P w c H a o r H' := by
  have e1 : cl.args = #[s, x] := by rw [← Array.toArray_toList (xs := cl.args), hx]
  have e2 : cl.argTypes = #[ty, xt] := by rw [← Array.toArray_toList (xs := cl.argTypes), hty]
  have fin : (∃ v w' c', (Builtin.append_ #[ty, xt] o.type #[a.eval s, a.eval x]).run P w = .ok v w' ∧ VR w' c' r v ∧ Stp kps w c H w' c' H') → OpM kps P w c H a o r H' := fun ⟨v, w', c', h1, h2, h3⟩ =>
    ⟨v, w', c', .inl (by rw [call_builtin ho hb, e1, e2]; simp [builtin, h1]), h2, h3⟩
  unfold appendS at h
  split at h
  · rename_i e e' hty' hxt
    obtain ⟨sz, hsz, h2⟩ := sW_ok h
    obtain ⟨zs, hz, h3⟩ := sW_ok h2
    obtain ⟨hby, h4⟩ := cndW_ok h3
    obtain ⟨new, hnew, h5⟩ := rb_ok h4
    obtain ⟨i, z, hi, hzi, hcs, hzl, _⟩ := zero_CsR (w := w) (c := c) ht hz
    obtain ⟨i', hi', hs', hb'⟩ := ht.info _ _ hsz
    rw [hi] at hi'; injection hi' with hi'; subst hi'
    subst hs'
    have hrd := rowsOf_sound (P := P) hh (opd_sound hA x) hnew
    obtain ⟨vs, hv1, hv2⟩ := reads_whole hrd
    obtain ⟨A, k, hxv, _⟩ := hrd
    refine fin (appendA_sound hh (o := o.type) (ht.und _ _ hty') hi hzi (by rw [← hcs.len, hzl]) (by rw [hb']; exact Nat.le_of_ble_eq_true hby) (opd_sound hA s) hv1 ⟨hv1.size, .inl ⟨⟨e', ht.und _ _ hxt⟩, ?_, hv2⟩⟩ h5)
    rw [hxv]; rfl
  · rename_i e k hty' hxt
    obtain ⟨sz, hsz, h2⟩ := sW_ok h
    obtain ⟨zs, hz, h3⟩ := sW_ok h2
    obtain ⟨hby, h4⟩ := cndW_ok h3
    obtain ⟨hzl0, h5⟩ := cndW_ok h4
    obtain ⟨m, hm, h6⟩ := rb_ok (h5 : appendMk _ _ _ _ _ _ = _)
    obtain ⟨hmm, h7⟩ := cnd_ok h6
    have hmm := Nat.le_of_ble_eq_true hmm
    obtain ⟨i, z, hi, hzi, hcs, hzl, _⟩ := zero_CsR (w := w) (c := c) ht hz
    obtain ⟨i', hi', hs', hb'⟩ := ht.info _ _ hsz
    rw [hi] at hi'; injection hi' with hi'; subst hi'
    subst hs'
    have hmade := made_CsR m hcs hzl.symm
    have hzc : z.cells.size = i.size := by rw [← hcs.len, hzl]
    have hbb : i.bytes ≤ 16777216 := by rw [hb']; exact Nat.le_of_ble_eq_true hby
    obtain ⟨kx, hxe⟩ := natOf_some hm
    have hxv := opd_sound hA x
    rw [hxe] at hxv
    have hrv : RowsV w c i.size (List.replicate m zs) (madeCells z.cells (m * i.size)).toList := by
      refine ⟨fun row hr => by rw [(List.mem_replicate.1 hr).2]; exact hzl.symm, by rw [Array.length_toList, size_madeCells, List.length_replicate], fun v hv => ?_, fun i u v hu hv => hmade.at_ i u v hu (by simpa using hv)⟩
      obtain ⟨j, hj⟩ := List.getElem?_of_mem hv
      exact hmade.one j v (by simpa using hj)
    rw [rep_eq] at h7
    have hlen : (List.replicate m zs).length = m := List.length_replicate
    refine fin (appendA_sound hh (o := o.type) (ht.und _ _ hty') hi hzi hzc hbb (opd_sound hA s) hrv ⟨hrv.size, .inr ⟨⟨k, ht.und _ _ hxt⟩, ⟨kx, by rw [hlen]; exact hxv.inv_num⟩, by rw [hlen]; exact hmm, i, z, hi, hzi, hbb, ?_⟩⟩ h7)
    rw [hlen, Array.toArray_toList]
    by_cases h0 : m * i.size = 0
    · rw [if_pos h0, h0]; simp [madeCells]
    · rw [if_neg h0]; unfold madeCells Builtin.zeroCells; rw [hzc]
  · cases h
end
end Go.Drip

/-
Operations that write memory: all.
-/
set_option linter.unusedVariables false
set_option linter.unusedSimpArgs false
namespace Go.Drip
open Go.MapKept
section
variable {P : Program} {w w' : World} {c : Cx} {n : Nat} {kp : Kp} {R : Rl} {T : Tr AV} {a : Act} {t : Tab} {kps : FuncId → Kp} {H : AH}

theorem cells3_ok {x : Option Blk} {f : TypeId → Nat → List (List AV) → RV} {r : AV} {H' : AH} (h : cells3 x f = .ok r H') : ∃ e sz rows, x = some (.cells e sz rows) ∧ f e sz rows = .ok r H' := by
  obtain ⟨y, rfl, h⟩ := rb_ok h
  cases y with
  | cells e sz rows => exact ⟨e, sz, rows, rfl, h⟩
  | _ => cases h

theorem store_sound (ht : t.Ok P) (hh : HR kps w c H) (hA : AR w c n kp R T a) {o : Oper} {ty : TypeId} {x y : Operand} (ho : o.op = .store ty x y) {s : Nat} (hs : t.size ty = some s) {r : AV} {H' : AH} (h : storeF s ((opd kp x).f R T) ((opd kp y).f R T) H = .ok r H') : OpM kps P w c H a o r H' := by
  obtain ⟨b, p, k, hx, h2⟩ := onPtr_ok h
  obtain ⟨e, sz, rows, hg, h3⟩ := cells3_ok h2
  obtain ⟨cs, hcs, h4⟩ := rb_ok h3
  obtain ⟨rfl, hcl⟩ := lenIs_some hcs
  have hne : ((opd kp y).f R T).cells ≠ [] := fun e => by rw [e] at h4; cases h4
  have h5 : rb (setRow rows p k ((opd kp y).f R T).cells) (fun rows => rb (H.set b (.leaf (.cells e sz rows))) fun H => .ok undefA H) = .ok r H' := by
    cases hc : ((opd kp y).f R T).cells with
    | nil => exact absurd hc hne
    | cons u l => rw [hc] at h4; exact h4
  obtain ⟨rows', hsr, h6⟩ := rb_ok h5
  obtain ⟨row, hrow, h7⟩ := ob_some hsr
  obtain ⟨hfit, h8⟩ := cnd_some h7
  injection h8 with h8
  simp only [nth_eq, setAt_eq, len_eq] at hrow h8 hfit
  have hfit : k + ((opd kp y).f R T).cells.length ≤ row.length := Nat.le_of_ble_eq_true hfit
  obtain ⟨H1, hset, h9⟩ := rb_ok h6
  obtain ⟨hp, rfl⟩ := AH.set_some hset
  injection h9 with h9 h10
  subst h9; subst h10
  have hv := opd_sound hA x
  rw [hx] at hv
  obtain ⟨hptr, hb⟩ := hv.inv_ptr
  have hcv := (opd_sound hA y).cells hne
  obtain ⟨i, hi, hsz, _⟩ := ht.info _ _ hs
  obtain ⟨rfl, hrl, arr, e', g1, g2, g3, g4⟩ := hh.blk b _ hb hg
  obtain ⟨hrl2, hrr⟩ := g4 p row hrow
  have hpl := (List.getElem?_eq_some_iff.1 hrow).1
  have hvl : (a.eval y).cells.toList.length = ((opd kp y).f R T).cells.length := by simp [hcv.len]
  have hle : c.off b + p * c.sz b + k + (a.eval y).cells.toList.length ≤ arr.size := by
    rw [hvl]
    have := Nat.mul_le_mul_right (c.sz b) (Nat.succ_le_of_lt hpl)
    rw [Nat.succ_mul] at this; omega
  have h1 : ∀ v ∈ (a.eval y).cells.toList, v.oneCell' = true := fun v hv => by
    obtain ⟨j, hj⟩ := List.getElem?_of_mem hv
    exact hcv.one j v (by simpa using hj)
  have hrun := run_storeCells_at P (c.blk b) (c.off b + p * c.sz b + k) e' (a.eval y).cells.toList 0 arr w g1 (by simpa using hle) h1
  simp only [Nat.add_zero] at hrun
  obtain ⟨s1, s2, s3⟩ := same_setRow w (c.blk b) (arr.toList.take (c.off b + p * c.sz b + k) ++ (a.eval y).cells.toList ++ arr.toList.drop (c.off b + p * c.sz b + k + (a.eval y).cells.toList.length)).toArray
  have hS : ∀ j, c.S j → (w.setRow (c.blk b) (arr.toList.take (c.off b + p * c.sz b + k) ++ (a.eval y).cells.toList ++ arr.toList.drop (c.off b + p * c.sz b + k + (a.eval y).cells.toList.length)).toArray).heap[j]? = w.heap[j]? :=
    fun j hj => s3 j fun e => hh.own b _ hb hg (e ▸ hj)
  refine ⟨undef, _, c, .inr ⟨?_, rfl⟩, .und, stp_set hh hb hg hp s1 s2 s3 fun y' hy => ?_⟩
  · unfold execOp; rw [ho]
    have hsz' : (a.eval y).cells.size = i.size := by rw [← hcv.len, hcl, hsz]
    simp only [Instr.storeAt, Instr.sureAddr, hptr, Sem.run_bind, Sem.run_pure, Result.andThen_ok, storeVar, run_size w hi, hsz', ne_eq, not_true_eq_false, if_false]
    rw [hrun]; rfl
  · injection hy with hy; subst hy
    rw [← h8]
    refine ⟨rfl, by rw [List.length_set]; exact hrl, _, e', setRow_heap w _ arr _ e' (0, 0) g1, by rw [setRow_size hle]; exact g2, by rw [List.length_set, setRow_size hle]; exact g3, fun q row' hq => ?_⟩
    by_cases hqp : q = p
    · subst hqp
      rw [List.getElem?_set_self hpl] at hq
      injection hq with hq; subst hq
      refine ⟨by rw [over_length]; exact hrl2, fun j u hu => ?_⟩
      rw [over_get] at hu
      rw [setRow_get hle]
      by_cases hc : k ≤ j ∧ j < k + ((opd kp y).f R T).cells.length ∧ j < row.length
      · rw [if_pos hc] at hu
        have hjl : j - k < (a.eval y).cells.toList.length := by rw [hvl]; omega
        have hvj := List.getElem?_eq_getElem hjl
        rw [if_pos (by omega)]
        have e1 : c.off b + q * c.sz b + j - (c.off b + q * c.sz b + k) = j - k := by omega
        rw [e1]
        exact ⟨_, hvj, (hcv.at_ _ u _ hu (by rw [← Array.getElem?_toList]; exact hvj)).mono (Ext.refl c) hS, h1 _ (List.getElem_mem hjl)⟩
      · rw [if_neg hc] at hu
        obtain ⟨v, m1, m2, m3⟩ := hrr j u hu
        have hj := (List.getElem?_eq_some_iff.1 hu).1
        rw [if_neg (by omega)]
        exact ⟨v, m1, m2.mono (Ext.refl c) hS, m3⟩
    · rw [List.getElem?_set_ne (Ne.symm hqp)] at hq
      obtain ⟨l1, l2⟩ := g4 q row' hq
      refine ⟨l1, fun j u hu => ?_⟩
      obtain ⟨v, m1, m2, m3⟩ := l2 j u hu
      have hj := (List.getElem?_eq_some_iff.1 hu).1
      refine ⟨v, ?_, m2.mono (Ext.refl c) hS, m3⟩
      rw [setRow_get hle, if_neg ?_]
      · exact m1
      · intro hcon
        rcases Nat.lt_or_gt_of_ne hqp with hlt | hgt
        · have := Nat.mul_le_mul_right (c.sz b) (Nat.succ_le_of_lt hlt)
          rw [Nat.succ_mul] at this; omega
        · have := Nat.mul_le_mul_right (c.sz b) (Nat.succ_le_of_lt hgt)
          rw [Nat.succ_mul] at this; omega

theorem minN_eq (p q : Nat) : minN p q = min p q := by
  unfold minN
  cases h : Nat.ble p q with
  | true => have := Nat.le_of_ble_eq_true h; show p = _; omega
  | false => have : ¬ p ≤ q := fun h' => by rw [Nat.ble_eq_true_of_le h'] at h; cases h
             show q = _; omega
theorem copy_sound (ht : t.Ok P) (hh : HR kps w c H) (hA : AR w c n kp R T a) {o : Oper} {cl : Call} (ho : o.op = .call cl) (hb : cl.callee = .builtin .copy) {ty : TypeId} {tys : List TypeId} {e : TypeId} {x y : Operand} (hty : cl.argTypes.toList = ty :: tys) (hx : cl.args.toList = [x, y])
    (hd : P.underlying ty = some (.slice e)) {sz : Nat} (hsz : t.size e = some sz) {r : AV} {H' : AH} (h : copyF sz ((opd kp x).f R T) ((opd kp y).f R T) H = .ok r H') : OpM kps P w c H a o r H' := by
  have e1 : cl.args = #[x, y] := by rw [← Array.toArray_toList (xs := cl.args), hx]
  have e2 : cl.argTypes[0]? = some ty := by rw [← Array.getElem?_toList, hty]; rfl
  have fin : (∃ v w' c', (Builtin.copy_ cl.argTypes o.type #[a.eval x, a.eval y]).run P w = .ok v w' ∧ VR w' c' r v ∧ Stp kps w c H w' c' H') → OpM kps P w c H a o r H' := fun ⟨v, w', c', h1, h2, h3⟩ =>
    ⟨v, w', c', .inl (by rw [call_builtin ho hb, e1]; simp [builtin, h1]), h2, h3⟩
  obtain ⟨i, hi, hs', _⟩ := ht.info _ _ hsz
  obtain ⟨rows, hrows, h2⟩ := rb_ok h
  have hrd := rowsOf_sound (P := P) hh (opd_sound hA y) hrows
  obtain ⟨A, k, hyv, hread⟩ := hrd
  have hv := opd_sound hA x
  have zero : ∀ B, a.eval x = .slice B 0 0 → r = num64 0 → H' = H → OpM kps P w c H a o r H' := fun B hB hr hH => by
    subst hr; subst hH
    obtain ⟨vs, hv1, hv2⟩ := hread 0 (Nat.zero_le _)
    have hvs : vs = [] := List.eq_nil_of_length_eq_zero (by have := hv1.size; simpa using this)
    subst hvs
    have hf := hv2 w rfl
    refine fin ⟨.int .i64 0, w, c, ?_, .num .i64 0, Stp.refl hh⟩
    subst hs'
    rw [hyv] at hf
    cases B <;> simp [Builtin.copy_, e2, run_und w hd, hB, hyv, Builtin.lenOf, sizeOf, run_info w hi, hf, goInt, storeCells]
  rcases onSl_ok h2 with ⟨b, q, m, s', cap, hxe, h3⟩ | ⟨s', m, f, hxe, h3⟩ | ⟨hxe, h3⟩ | ⟨hxe, h3⟩
  · obtain ⟨c1, h4⟩ := cnd_ok h3
    have := Nat.eq_of_beq_eq_true c1; subst this
    obtain ⟨e3, sz3, rows3, hg, h5⟩ := cells3_ok h4
    rw [hxe] at hv
    have hxv := hv
    generalize hgx : a.eval x = xv at *
    cases hv with
    | sl _ _ _ _ _ kk hbN hss hmk hc hr hk =>
      obtain ⟨vs, hv1, hv2⟩ := hread (minN (len rows) m) (by rw [minN_eq, len_eq]; exact Nat.min_le_left _ _)
      have hsz3 : sz3 = c.sz b := (hh.blk b _ hbN hg).1
      have hv1' : RowsV w c sz3 (tak rows (minN (len rows) m)) vs := by rw [tak_eq, hsz3, ← hss]; exact hv1
      obtain ⟨rfl, w', hst, hstp, _⟩ := inPlace_sound (P := P) hh hbN (by rw [hg]; rfl) hsz3 hv1' h5
      refine fin ⟨.int .i64 (minN (len rows) m : Nat), w', c, ?_, .num _ _, hstp⟩
      have hf := hv2 w rfl
      rw [hyv] at hf
      rw [hsz3] at hst
      simp only [len_eq] at hf
      have hmin : Nat.min rows.length m = minN rows.length m := by rw [minN_eq]
      simp [Builtin.copy_, e2, run_und w hd, hyv, Builtin.lenOf, sizeOf, run_info w hi, goInt, hmin, hs', hf, hst]
    | sl0 _ _ _ hbN hss hr g oo =>
      obtain ⟨vs, hv1, hv2⟩ := hread 0 (Nat.zero_le _)
      have hvs : vs = [] := List.eq_nil_of_length_eq_zero (by have := hv1.size; simpa using this)
      subst hvs
      have hm0 : minN (len rows) 0 = 0 := by rw [minN_eq]; exact Nat.min_zero _
      rw [hm0] at h5
      have hsz3 : sz3 = c.sz b := (hh.blk b _ hbN hg).1
      obtain ⟨rfl, w', hst, hstp, _⟩ := inPlace_sound (P := P) (news := []) hh hbN (by rw [hg]; rfl) hsz3 (by
        refine ⟨fun row hr => ?_, ?_, fun v hv => by simp at hv, fun i u v hu hv => by simp at hv⟩
        · rw [tak_eq] at hr; simp at hr
        · rw [tak_eq]; simp) h5
      have hww : w' = w := by simpa [storeCells] using hst.symm
      subst hww
      have hf := hv2 w' rfl
      refine fin ⟨.int .i64 0, w', c, ?_, .num .i64 0, hstp⟩
      subst hs'
      rw [hyv] at hf
      simp [Builtin.copy_, e2, run_und w' hd, hyv, Builtin.lenOf, sizeOf, run_info w' hi, hf, goInt, storeCells]
  · cases h3
  · injection h3 with h3 h4
    rw [hxe] at hv
    generalize hgx : a.eval x = xv at *
    cases hv with | z B => exact zero B rfl h3.symm h4.symm
  · injection h3 with h3 h4
    rw [hxe] at hv
    generalize hgx : a.eval x = xv at *
    cases hv with | nils => exact zero none rfl h3.symm h4.symm

theorem clear_sound (ht : t.Ok P) (hh : HR kps w c H) (hA : AR w c n kp R T a) {o : Oper} {cl : Call} (ho : o.op = .call cl) (hb : cl.callee = .builtin .clear) {ty e : TypeId} {x : Operand} (hty : cl.argTypes.toList = [ty]) (hx : cl.args.toList = [x])
    (hd : P.underlying ty = some (.slice e)) {zs : List AV} (hz : t.zero e = some zs) {r : AV} {H' : AH} (h : clearF zs ((opd kp x).f R T) H = .ok r H') : OpM kps P w c H a o r H' := by
  have e1 : cl.args = #[x] := by rw [← Array.toArray_toList (xs := cl.args), hx]
  have e2 : cl.argTypes = #[ty] := by rw [← Array.toArray_toList (xs := cl.argTypes), hty]
  have fin : ∀ w', (Builtin.clear_ #[ty] o.type #[a.eval x]).run P w = .ok (.tuple #[]) w' → r = .tup [] → Stp kps w c H w' c H' → OpM kps P w c H a o r H' := fun w' h1 h2 h3 =>
    ⟨.tuple #[], w', c, .inl (by rw [call_builtin ho hb, e1, e2]; simp [builtin, h1]), by rw [h2]; exact .tup [] #[] rfl fun i u v hu => by simp at hu, h3⟩
  have hv := opd_sound hA x
  have zero : ∀ B k, a.eval x = .slice B 0 k → RV.ok (.tup []) H = .ok r H' → OpM kps P w c H a o r H' := fun B k hB hr => by
    injection hr with hr hH
    subst hr; subst hH
    refine fin w ?_ rfl (Stp.refl hh)
    cases B <;> simp [Builtin.clear_, run_und w hd, hB]
  rcases onSl_ok h with ⟨b, q, m, s', cap, hxe, h3⟩ | ⟨s', m, f, hxe, h3⟩ | ⟨hxe, h3⟩ | ⟨hxe, h3⟩
  · obtain ⟨c1, h4⟩ := cnd_ok h3
    have c1 := Nat.eq_of_beq_eq_true c1
    obtain ⟨e3, sz3, rows3, hg, h5⟩ := cells3_ok h4
    rw [hxe] at hv
    obtain ⟨i, z, hi, hzi, hcs, hzl, _⟩ := zero_CsR (w := w) (c := c) ht hz
    have hzc : z.cells.size = i.size := by rw [← hcs.len, hzl]
    generalize hgx : a.eval x = xv at *
    cases hv with
    | sl _ _ _ _ _ kk hbN hss hmk hc hr hk =>
      have hsz3 : sz3 = c.sz b := (hh.blk b _ hbN hg).1
      have hzl' : zs.length = sz3 := by rw [hsz3, ← hss, ← c1, len_eq]
      have hmade := made_CsR m hcs hzl'
      have hrv : RowsV w c sz3 (List.replicate m zs) (madeCells z.cells (m * sz3)).toList := by
        refine ⟨fun row hr => by rw [(List.mem_replicate.1 hr).2]; exact hzl', by rw [Array.length_toList, size_madeCells, List.length_replicate], fun v hv => ?_, fun i u v hu hv => hmade.at_ i u v hu (by simpa using hv)⟩
        obtain ⟨j, hj⟩ := List.getElem?_of_mem hv
        exact hmade.one j v (by simpa using hj)
      rw [rep_eq] at h5
      obtain ⟨rfl, w', hst, hstp, _⟩ := inPlace_sound (P := P) hh hbN (by rw [hg]; rfl) hsz3 hrv h5
      refine fin w' ?_ rfl hstp
      have hzz : Builtin.zeroCells z.cells m = madeCells z.cells (m * sz3) := by
        unfold Builtin.zeroCells madeCells; rw [hzc, ← hzl', hzl]
      rw [hsz3] at hst
      by_cases hm0 : m = 0
      · subst hm0
        have : w' = w := by
          simp [madeCells, storeCells] at hst
          exact hst.symm
        subst this
        simp [Builtin.clear_, run_und w' hd]
      · rw [hsz3] at hzz
        simp [Builtin.clear_, run_und w hd, hm0, zeroValue, run_info w hi, hzi, hzz, hst]
    | sl0 _ _ _ hbN hss hr g oo =>
      have hsz3 : sz3 = c.sz b := (hh.blk b _ hbN hg).1
      obtain ⟨rfl, w', hst, hstp, _⟩ := inPlace_sound (P := P) (news := []) hh hbN (by rw [hg]; rfl) hsz3 (by
        refine ⟨fun row hr => ?_, ?_, fun v hv => by simp at hv, fun i u v hu hv => by simp at hv⟩
        · rw [rep_eq] at hr; simp at hr
        · rw [rep_eq]; simp) h5
      have hww : w' = w := by simpa [storeCells] using hst.symm
      subst hww
      exact fin w' (by simp [Builtin.clear_, run_und w' hd]) rfl hstp
  · obtain ⟨c1, h4⟩ := cnd_ok h3
    have := Nat.eq_of_beq_eq_true c1; subst this
    rw [hxe] at hv
    generalize hgx : a.eval x = xv at *
    cases hv with
    | imm => exact zero _ _ rfl h4
    | immz => exact zero _ _ rfl h4
  · rw [hxe] at hv
    generalize hgx : a.eval x = xv at *
    cases hv with | z B => exact zero _ _ rfl h3
  · rw [hxe] at hv
    generalize hgx : a.eval x = xv at *
    cases hv with | nils => exact zero _ _ rfl h3
end
end Go.Drip

/-
Operations that write memory: maps; all of them.
-/
set_option linter.unusedVariables false
set_option linter.unusedSimpArgs false
namespace Go.Drip
open Go.MapKept
section
variable {P : Program} {w w' : World} {c : Cx} {n : Nat} {kp : Kp} {R : Rl} {T : Tr AV} {a : Act} {t : Tab} {kps : FuncId → Kp} {H : AH}

theorem mapPut_sound (ht : t.Ok P) (hh : HR kps w c H) (hA : AR w c n kp R T a) {o : Oper} {ty : TypeId} {m k x : Operand} (ho : o.op = .mapUpdate ty m k x ∨ o.op = .insert ty m k x) {r : AV} {H' : AH} (h : (mapPutS t kp ty m k x).f R T H = .ok r H') : OpM kps P w c H a o r H' := by
  unfold mapPutS at h
  split at h
  · rename_i kt et hty
    obtain ⟨d, hd, h2⟩ := sW_ok h
    obtain ⟨e0, hk0, h3⟩ := rb_ok (h2 : mapPutF _ _ _ _ _ = _)
    obtain ⟨b, hm, h4⟩ := onMp_ok h3
    obtain ⟨es, hes, h5⟩ := rb_ok h4
    obtain ⟨es', hput, h6⟩ := rb_ok h5
    obtain ⟨H1, hset, h7⟩ := rb_ok h6
    obtain ⟨hp, rfl⟩ := AH.set_some hset
    injection h7 with h7 h8
    subst h7; subst h8
    have hmv := opd_sound hA m
    have hkv := opd_sound hA k
    have hxv := opd_sound hA x
    rw [hm] at hmv
    obtain ⟨hme, hb⟩ := onMp_inv hmv
    obtain ⟨ents, clock, g1, g2, g3⟩ := hh.map hb hes
    have hg : ∃ x0, H.get b = some x0 := by
      obtain ⟨y, hy, _⟩ := ob_some hes
      exact ⟨y, hy⟩
    obtain ⟨x0, hg⟩ := hg
    have hdP := ht.und _ _ hd
    obtain ⟨q, hq, hqf⟩ := putA_I hput
    obtain ⟨fr, hfr, hq2⟩ := findKey_sound (P := P) ht hdP hkv g2 g3 hq
    have hck := key_check (w := w) (P := P) ht hdP hkv hk0 false
    have hobj : (getObj (c.blk b)).run P w = .ok (.map ents clock) w := by simp [getObj, Sem.run, g1]
    have hsetO : ∀ o : Obj, (setObj (c.blk b) o).run P w = .ok () { w with heap := w.heap.setIfInBounds (c.blk b) o } := fun o => by simp [setObj, Sem.run, g1]
    have hrun0 : (execOp a.eval o).run P w = (do Instr.mapUpdate ty (a.eval m) (a.eval k) (a.eval x); pure Next.skip : Sem Next).run P w := by
      unfold execOp; rcases ho with ho | ho <;> rw [ho]
    have fin : ∀ ents', (Instr.mapUpdate ty (a.eval m) (a.eval k) (a.eval x)).run P w = .ok () { w with heap := w.heap.setIfInBounds (c.blk b) (.map ents' (if q = none then clock + 1 else clock)) } →
        es'.length = ents'.size → (∀ (i : Nat) (p : AV × AV) (e : MapEntry), es'[i]? = some p → ents'[i]? = some e → VR w c p.1 e.key ∧ VR w c p.2 e.val) → OpM kps P w c H a o undefA (H.upd b (.leaf (.map es'))) := fun ents' hr hl hv => by
      obtain ⟨s1, s2⟩ := heap_set (o' := .map ents' (if q = none then clock + 1 else clock)) g1
      have hS : ∀ j, c.S j → (w.heap.setIfInBounds (c.blk b) (.map ents' (if q = none then clock + 1 else clock)))[j]? = w.heap[j]? := fun j hj => s2 j fun e => hh.own b x0 hb hg (e ▸ hj)
      refine ⟨undef, { w with heap := w.heap.setIfInBounds (c.blk b) (.map ents' (if q = none then clock + 1 else clock)) }, c, .inr ⟨by rw [hrun0]; simp [hr], rfl⟩, .und, stp_set (w' := { w with heap := w.heap.setIfInBounds (c.blk b) (.map ents' (if q = none then clock + 1 else clock)) }) hh hb hg hp ⟨rfl, rfl, rfl, by simp⟩ (by simp) s2 fun y hy => ?_⟩
      injection hy with hy; subst hy
      refine ⟨ents', _, s1, hl, fun i p e hi hj => ?_⟩
      obtain ⟨v1, v2⟩ := hv i p e hi hj
      exact ⟨v1.mono (Ext.refl c) hS, v2.mono (Ext.refl c) hS⟩
    rcases hq2 with ⟨rfl, rfl⟩ | ⟨j, me, rfl, hj, rfl⟩
    · rcases hqf with ⟨_, rfl⟩ | ⟨_, _, hjj, _⟩
      · refine fin (ents.push { key := a.eval k, val := a.eval x, born := clock }) ?_ (by simp [g2]) fun i p e hi hj => ?_
        · rw [hme]
          simp only [Instr.mapUpdate, Sem.run_bind, run_und w (ht.und _ _ hty), Result.andThen_ok, hobj, hck, hfr, hsetO, if_true]
        · by_cases hil : i < es.length
          · rw [List.getElem?_append_left hil] at hi
            rw [Array.getElem?_push, if_neg (by omega)] at hj
            exact g3 i p e hi hj
          · have hl := (List.getElem?_eq_some_iff.1 hi).1
            simp at hl
            have : i = es.length := by omega
            subst this
            rw [List.getElem?_append_right (Nat.le_refl _)] at hi
            simp at hi
            rw [g2] at hj
            simp at hj
            subst hi; subst hj
            exact ⟨hkv, hxv⟩
      · cases hjj
    · rcases hqf with ⟨hjj, _⟩ | ⟨j', p, hjj, hj', heq, rfl⟩
      · cases hjj
      · injection hjj with hjj; subst hjj
        have hp1 := (g3 j p me hj' hj).1
        obtain ⟨hsame, hbits, _⟩ := keyD_sound ht hdP hkv hp1 heq
        have hkey : me.key = a.eval k := (hsame rfl).symm
        have hstay : (Instr.keyThatStays (a.eval k) (a.eval k)).run P w = .ok (a.eval k) w := by
          simp [Instr.keyThatStays, hbits 9999]
        have hjl := (Array.getElem?_eq_some_iff.1 hj).1
        refine fin (ents.modify j fun e => { e with key := a.eval k, val := a.eval x }) ?_ (by simp [g2]) fun i p' e hi hj2 => ?_
        · rw [hme]
          simp only [Instr.mapUpdate, Sem.run_bind, run_und w (ht.und _ _ hty), Result.andThen_ok, hobj, hck, hfr]
          simp only [hj, Option.map_some, Option.getD_some, hkey, hstay, Sem.run_bind, Result.andThen_ok, hsetO]
          rfl
        · rw [Array.getElem?_modify] at hj2
          by_cases hij : j = i
          · subst hij
            rw [List.getElem?_set_self (by omega)] at hi
            injection hi with hi; subst hi
            rw [if_pos rfl, hj] at hj2
            injection hj2 with hj2; subst hj2
            exact ⟨hkv, hxv⟩
          · rw [List.getElem?_set_ne hij] at hi
            rw [if_neg hij] at hj2
            exact g3 i p' e hi hj2
  · cases h

theorem opWrite_sound (ht : t.Ok P) (hh : HR kps w c H) (hA : AR w c n kp R T a) {o : Oper} {r : AV} {H' : AH} (h : (opWrite t kp o.op).f R T H = .ok r H') : OpM kps P w c H a o r H' := by
  cases ho : o.op with
  | store ty x y =>
    rw [ho] at h
    obtain ⟨s, hs, h2⟩ := sW_ok h
    exact store_sound ht hh hA ho hs h2
  | mapUpdate ty m k x => rw [ho] at h; exact mapPut_sound ht hh hA (.inl ho) h
  | insert ty m k x => rw [ho] at h; exact mapPut_sound ht hh hA (.inr ho) h
  | call cl =>
    rw [ho] at h
    cases hc : cl.callee with
    | value f => simp only [opWrite, hc] at h; cases h
    | invoke x m => simp only [opWrite, hc] at h; cases h
    | builtin b =>
      simp only [opWrite, hc] at h
      unfold builtinW at h
      split at h
      · rename_i ty xt s x hty hx
        exact append_sound ht hh hA ho hc hty hx h
      · rename_i ty tys d s hty hx
        split at h
        · rename_i e hd
          obtain ⟨sz, hsz, h2⟩ := sW_ok h
          exact copy_sound ht hh hA ho hc hty hx (ht.und _ _ hd) hsz h2
        · cases h
      · rename_i ty x hty hx
        split at h
        · rename_i e hd
          obtain ⟨zs, hz, h2⟩ := sW_ok h
          exact clear_sound ht hh hA ho hc hty hx (ht.und _ _ hd) hz h2
        · cases h
      · cases h
  | _ => rw [ho] at h; cases h
end
end Go.Drip

