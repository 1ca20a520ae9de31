import Derived.Test.YtadmkkbgdbcjiaaGreatLib04
/-
Append in the model. No condition.
-/
/-
Append: what the program does.
-/
set_option linter.unusedVariables false
set_option linter.unusedSimpArgs false
namespace Go.Drip
section
variable {P : Program} {w w' : World} {c : Cx} {n : Nat} {kp : Kp} {R : Rl} {T : Tr AV} {a : Act} {t : Tab} {kps : FuncId → Kp} {H : AH}

/-! ### Append -/
/-- How many elements are appended, and their cells. -/
structure Adds (P : Program) (w : World) (e : TypeId) (sz : Nat) (xt : TypeId) (x : Value) (m : Nat) (news : List Value) : Prop where
  len : news.length = m * sz
  run : ((∃ e', P.underlying xt = some (.slice e')) ∧ (Builtin.lenOf x).run P w = .ok m w ∧ ∀ w1, w1.heap = w.heap → (Builtin.firstCells sz m x).run P w1 = .ok news.toArray w1) ∨
    ((∃ k, P.underlying xt = some (.int k)) ∧ (∃ k, x = .int k (m : Nat)) ∧ m ≤ 1048576 ∧ ∃ i z, P.info? e = some i ∧ i.zero = some z ∧ i.bytes ≤ 16777216 ∧ news.toArray = if m * sz = 0 then #[] else Builtin.zeroCells z.cells m)

theorem run_append_in {ty xt e o : TypeId} {i : TypeInfo} {x : Value} {m k n : Nat} {news : List Value} {A : Option Addr} (ht : P.underlying ty = some (.slice e)) (hi : P.info? e = some i) (hx : Adds P w e i.size xt x m news) (hr : n + m ≤ k)
    (hs : ∀ a, A = some a → (storeCells (a.add (n * i.size)) news).run P w = .ok () w') (h0 : A = none → w' = w) :
    (Builtin.append_ #[ty, xt] o #[.slice A n k, x]).run P w = .ok (.slice A (n + m) k) w' := by
  rcases hx.run with ⟨⟨e', hxt⟩, hl, hf⟩ | ⟨⟨kk, hxt⟩, ⟨kx, rfl⟩, hm, i2, z, hi2, hz, hb, hn⟩
  · have hf := hf w rfl
    cases A with
    | none =>
      rw [h0 rfl]
      simp [Builtin.append_, run_und w ht, run_und w hxt, sizeOf, typeInfo, hi, hl, hr, hf]
    | some a =>
      have hs := hs a rfl
      simp [Builtin.append_, run_und w ht, run_und w hxt, sizeOf, typeInfo, hi, hl, hr, hf, hs]
  · rw [hi] at hi2; injection hi2 with hi2; subst hi2
    have hw : IntKind.i64.wrap (m : Int) = m := by rw [IntKind.wrap_i64]; omega
    have h1 : ¬ ((m : Int) < 0) := by omega
    have hmb : m * i.bytes ≤ 1048576 * 16777216 := Nat.mul_le_mul hm hb
    have h2 : ¬ (281474976710656 < (m : Int) * (i.bytes : Int)) := by
      rw [← Int.natCast_mul]; omega
    by_cases hms : m * i.size = 0
    · rw [if_pos hms] at hn
      have hnil : news = [] := by simpa using hn
      subst hnil
      have hms' : m = 0 ∨ i.size = 0 := Nat.mul_eq_zero.1 hms
      cases A with
      | none =>
        rw [h0 rfl]
        simp [Builtin.append_, run_und w ht, run_und w hxt, sizeOf, typeInfo, hi, asInt, asIntOf, hw, h1, h2, hr, hms, hms']
      | some a =>
        have hs := hs a rfl
        simp [Builtin.append_, run_und w ht, run_und w hxt, sizeOf, typeInfo, hi, asInt, asIntOf, hw, h1, h2, hr, hms, hms', hs]
    · rw [if_neg hms] at hn
      have hms' : ¬ (m = 0 ∨ i.size = 0) := fun h => hms (Nat.mul_eq_zero.2 h)
      have hnl : news = (Builtin.zeroCells z.cells m).toList := by rw [← hn]
      cases A with
      | none =>
        rw [h0 rfl]
        simp [Builtin.append_, run_und w ht, run_und w hxt, sizeOf, typeInfo, hi, asInt, asIntOf, hw, h1, h2, hr, hms, hms', zeroValue, hz]
      | some a =>
        have hs := hs a rfl
        rw [hnl] at hs
        simp [Builtin.append_, run_und w ht, run_und w hxt, sizeOf, typeInfo, hi, asInt, asIntOf, hw, h1, h2, hr, hms, hms', zeroValue, hz, hs]

theorem run_append_out {ty xt e o : TypeId} {i : TypeInfo} {z : Value} {x : Value} {m k n : Nat} {olds news : List Value} {A : Option Addr} (ht : P.underlying ty = some (.slice e)) (hi : P.info? e = some i) (hz : i.zero = some z) (hb : i.bytes ≤ 16777216) (hx : Adds P w e i.size xt x m news)
    (hr : ¬ n + m ≤ k) (hlim : n + m ≤ 4194304) (ho : (Builtin.firstCells i.size n (.slice A n k)).run P w.drew = .ok olds.toArray w.drew) :
    (Builtin.append_ #[ty, xt] o #[.slice A n k, x]).run P w = .ok (.slice (some ⟨w.heap.size, 0, none⟩) (n + m) (grownCap w (n + m) k e)) (w.drew.alloc (.cells (olds.toArray ++ news.toArray ++ Builtin.zeroCells z.cells (grownCap w (n + m) k e - (n + m))) e)) := by
  have h63 : ¬ (9223372036854775807 < ((n : Int) + (m : Int))) := by omega
  have hfit : Builtin.nextslicecap (n + m) k * i.bytes ≤ 281474976710656 := growslice_fits (by omega) (Nat.le_trans (Nat.mul_le_mul hlim hb) (by decide))
  have h48 : ¬ (281474976710656 < Builtin.nextslicecap (n + m) k * i.bytes) := by omega
  rcases hx.run with ⟨⟨e', hxt⟩, hl, hf⟩ | ⟨⟨kk, hxt⟩, ⟨kx, rfl⟩, hm, i2, z2, hi2, hz2, hb2, hn⟩
  · have hf := hf w.drew rfl
    simp [Builtin.append_, run_und w ht, run_und w hxt, sizeOf, typeInfo, hi, hl, hr, h63, h48, Question.forced, hf, ho, zeroValue, hz, newRow, grownCap]
    congr 2
    apply Array.ext'
    simp [List.append_assoc]
  · rw [hi] at hi2; injection hi2 with hi2; subst hi2
    rw [hz] at hz2; injection hz2 with hz2; subst hz2
    have hw : IntKind.i64.wrap (m : Int) = m := by rw [IntKind.wrap_i64]; omega
    have h1 : ¬ ((m : Int) < 0) := by omega
    have hmb : m * i.bytes ≤ 1048576 * 16777216 := Nat.mul_le_mul hm hb
    have h2 : ¬ (281474976710656 < (m : Int) * (i.bytes : Int)) := by
      rw [← Int.natCast_mul]; omega
    by_cases hms : m * i.size = 0
    · rw [if_pos hms] at hn
      have hms' : m = 0 ∨ i.size = 0 := Nat.mul_eq_zero.1 hms
      simp [Builtin.append_, run_und w ht, run_und w hxt, sizeOf, typeInfo, hi, asInt, asIntOf, hw, h1, h2, hr, h63, h48, hms, hms', Question.forced, ho, zeroValue, hz, newRow, grownCap, hn]
    · rw [if_neg hms] at hn
      have hms' : ¬ (m = 0 ∨ i.size = 0) := fun h => hms (Nat.mul_eq_zero.2 h)
      simp [Builtin.append_, run_und w ht, run_und w hxt, sizeOf, typeInfo, hi, asInt, asIntOf, hw, h1, h2, hr, h63, h48, hms, hms', Question.forced, ho, zeroValue, hz, newRow, grownCap, hn]
end
end Go.Drip

