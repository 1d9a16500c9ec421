/- Rows that are made, built and appended to. -/
import Derived.Test.YtilmadidjihfkaaVcD
namespace Go.Vc
open Go.RowKit (Below)
section
variable {P : Program}

theorem repl_length (n : Nat) (z : List Value) : (repl n z).length = n * z.length := by
  simp [repl, List.length_flatten]

theorem repl_succ (n : Nat) (z : List Value) : repl (n + 1) z = z ++ repl n z := by simp [repl, List.replicate_succ]

theorem repl_get (z : List Value) : ∀ (n j : Nat), j < n * z.length → (repl n z)[j]? = z[j % z.length]?
  | 0, j, h => by simp at h
  | n + 1, j, h => by
    rw [repl_succ]
    by_cases hj : j < z.length
    · rw [List.getElem?_append_left hj, Nat.mod_eq_of_lt hj]
    · rw [List.getElem?_append_right (by omega), repl_get z n (j - z.length) (by rw [Nat.add_mul] at h; omega)]
      conv => rhs; rw [Nat.mod_eq_sub_mod (by omega)]

theorem made_take (z : Array Value) (n c sz : Nat) (hz : z.size = sz) (h0 : 0 < sz) (h : n ≤ c) : (madeCells z (c * sz)).toList.take (n * sz) = repl n z.toList := by
  have hle : n * sz ≤ c * sz := Nat.mul_le_mul_right _ h
  apply List.ext_getElem?
  intro j
  by_cases hj : j < n * sz
  · rw [List.getElem?_take_of_lt hj, repl_get _ _ _ (by simpa [hz] using hj)]
    have hm : j % sz < z.size := by rw [hz]; exact Nat.mod_lt _ h0
    simp [madeCells, hz, show j < c * sz by omega]
    rw [Array.getElem?_eq_getElem hm]
    simp [getElem!_pos z (j % sz) hm]
  · rw [List.getElem?_eq_none (by rw [List.length_take, Array.length_toList, size_madeCells]; omega), List.getElem?_eq_none (by rw [repl_length]; simp [hz]; omega)]

def blk : Value → Option Nat
  | .pointer (some a) => some a.block
  | .slice (some a) _ _ => some a.block
  | _ => none

theorem Ch_setRow (w : World) (g : Nat) (cs : Array Value) : Ch g w (w.setRow g cs) :=
  ⟨rfl, rfl, rfl, by simp, fun k _ hk => setRow_other w g k cs hk⟩

theorem run_make_row {t e : TypeId} {te : Ty} (ht : P.underlying t = some (.slice e)) (he : TyOk P e te) (h0 : 0 < te.size) (hz : te.zero.length = te.size) (kl kc : IntKind) (n m : Nat) (hnm : n ≤ m) (hm : m ≤ 1099511627776) (hb : m * te.bytes ≤ 140737488355328) (w : World) :
    ∃ v w', (Instr.makeSlice t (.int kl (n : Int)) (.int kc (m : Int))).run P w = .ok v w' ∧ RowOk w' e te.size n (repl n te.zero) false v ∧ Le w w' ∧ blk v = some w.heap.size := by
  obtain ⟨i, z, hi, hs, hby, hzz, hc⟩ := he.info
  have hzs : z.cells.size = te.size := by rw [← hz, ← hc]; simp
  have hbb : (i.bytes : Int) * (m : Int) ≤ 281474976710656 := by
    have : ((i.bytes * m : Nat) : Int) ≤ 281474976710656 := by rw [hby, Nat.mul_comm]; omega
    rwa [Int.natCast_mul] at this
  have hr := run_make (P := P) w t e i z ht hi hzz kl kc n m (by omega) (by omega) hbb (by omega)
  simp only [Int.toNat_natCast, hs] at hr
  refine ⟨_, _, hr, ⟨by rw [repl_length, hz], .inr ⟨w.heap.size, m, _, rfl, heap_alloc_new w _, hnm, by simp only [maxLen]; omega, size_madeCells _ _, ?_, by simp⟩⟩, Le.alloc _ _, rfl⟩
  rw [made_take z.cells n m te.size hzs h0 hnm, hc]

theorem run_buildSlice {t e : TypeId} {te : Ty} (ht : P.underlying t = some (.slice e)) (he : TyOk P e te) (h0 : 0 < te.size) (hz : te.zero.length = te.size) (n : Nat) (hn : n * te.size ≤ 16777216)
    (ps : Array (Nat × Value)) (k : List Value → Prop) (hk : putParts (repl n te.zero) (rowPl te.size n 0) ps.toList k) (w : World) :
    ∃ l v w', (Instr.buildSlice t n ps).run P w = .ok v w' ∧ RowOk w' e te.size n l true v ∧ Le w w' ∧ blk v = some w.heap.size ∧ k l := by
  obtain ⟨z, hzc, hzr⟩ := run_zeroValue he
  have hzs : z.cells.size = te.size := by rw [← hz, ← hzc]; simp
  have hcells : (madeCells z.cells (n * te.size)).toList = repl n te.zero := by
    have := made_take z.cells n n te.size hzs h0 (Nat.le_refl _)
    rwa [List.take_of_length_le (by simp [size_madeCells]), hzc] at this
  rw [← hcells] at hk
  obtain ⟨l, hl, hf, hk⟩ := fill_of_putParts (fun i => some (i * te.size, te.size)) (rowPl te.size n 0) (by
      intro i p hp
      obtain ⟨_, h2⟩ := rowPl_get te.size n 0 i p hp
      simp [h2]) ps.toList (madeCells z.cells (n * te.size)) k hk
  rw [size_madeCells] at hl
  have hmax : n ≤ maxLen := by
    have : n ≤ n * te.size := Nat.le_mul_of_pos_right n h0
    simp only [maxLen]; omega
  refine ⟨l, .slice (some ⟨w.heap.size, 0, none⟩) n n, w.alloc (.cells l.toArray e), ?_, ⟨hl, .inr ⟨w.heap.size, n, l.toArray, rfl, heap_alloc_new w _, Nat.le_refl _, hmax, by simp [hl], by simp [← hl], fun _ => rfl⟩⟩, Le.alloc _ _, rfl, hk⟩
  have hng : ¬ (n * te.size > 16777216) := by omega
  by_cases hn0 : n * te.size = 0
  · have hnn : n = 0 := by
      rcases Nat.mul_eq_zero.1 hn0 with h | h
      · exact h
      · omega
    subst hnn
    have e1 : madeCells z.cells (0 * te.size) = #[] := by simp [madeCells]
    rw [e1] at hf
    simp only [Instr.buildSlice, Sem.run_bind, run_underlying ht, Result.andThen_ok, run_sizeOf he, Nat.zero_mul]
    simp [newRow]
    have e2 : (Array.map (fun _ => (default : Value)) (Array.range 0)) = #[] := by simp
    rw [e2, hf]
    simp
  · simp only [Instr.buildSlice, Sem.run_bind, run_underlying ht, Result.andThen_ok, run_sizeOf he]
    have hf' : Instr.fill (fun i => some (i * te.size, te.size)) ((Array.range (n * te.size)).map (fun x => z.cells[x % z.cells.size]!)) ps.toList = some l.toArray := hf
    simp [hng, hn0, hzr, hf', newRow]

theorem Ch_of_Le {g : Nat} {w w' : World} (h : Le w w') : Ch g w w' := ⟨Below.os h, Below.tape h, Below.output h, Below.size h, fun k hk _ => Below.block h k hk⟩

/-- append: into the row as it is, or into a new block. -/
theorem run_append_row {t e : TypeId} {te : Ty} (ty : TypeId) (ht : P.underlying t = some (.slice e)) (he : TyOk P e te) (hz : te.zero.length = te.size) (w : World) (s : Value) (n : Nat) (cs : List Value) (ex : Bool)
    (hrow : RowOk w e te.size n cs ex s) (a : Option Addr) (m c : Nat) (l : List Value) (hl : l.length = m * te.size) (h1 : oneCells l = true) (hsrc : m = 0 ∨ Cells w a 0 l)
    (hnm : n + m ≤ 1099511627776) (hb : (n + m) * te.bytes ≤ 140737488355328) :
    ∃ v' w', (Builtin.append_ #[t, t] ty #[s, .slice a m c]).run P w = .ok v' w' ∧ RowOk w' e te.size (n + m) (cs ++ l) false v' ∧
      ((Le w w' ∧ (blk v' = none ∨ blk v' = some w.heap.size)) ∨ ((ex = true → m = 0) ∧ ∃ g, blk s = some g ∧ blk v' = some g ∧ Ch g w w')) := by
  obtain ⟨i, z, hi, hs, hby, hzz, hzc⟩ := he.info
  have hzs : z.cells.size = te.size := by rw [← hz, ← hzc]; simp
  rw [oneCells_iff] at h1
  obtain ⟨hcl, hv⟩ := hrow
  have hlen : (cs ++ l).length = (n + m) * te.size := by rw [List.length_append, hcl, hl, Nat.add_mul]
  have hmax : n + m ≤ maxLen := by simp only [maxLen]; omega
  -- what a new block holds
  have grown : ∀ (old : Nat), old < n + m →
      RowOk (w.drew.alloc (.cells (cs.toArray ++ l.toArray ++ Builtin.zeroCells z.cells (grownCap w (n + m) old e - (n + m))) e)) e te.size (n + m) (cs ++ l) false
        (.slice (some ⟨w.heap.size, 0, none⟩) (n + m) (grownCap w (n + m) old e)) := by
    intro old ho
    have hge := grownCap_ge w (n + m) old e
    have hcm : grownCap w (n + m) old e ≤ maxLen := grownCap_le_maxLen w (n + m) old e hmax
    refine ⟨hlen, .inr ⟨w.heap.size, _, _, rfl, heap_alloc_new w.drew _, hge, hcm, ?_, ?_, by simp⟩⟩
    · simp only [Array.size_append, List.size_toArray, size_zeroCells, hzs, hcl, hl, ← Nat.add_mul]
      congr 1
      omega
    · simp only [Array.toList_append, List.append_assoc]
      rw [← List.append_assoc, ← hlen]
      exact List.take_left
  have hle : ∀ o, Le w (w.drew.alloc o) := fun o => (Le.drew w).trans (Le.alloc _ _)
  -- a source without an address has no elements
  cases a with
  | none =>
    have hm0 : m = 0 := by
      rcases hsrc with h | ⟨ad, h, _⟩
      · exact h
      · cases h
    subst hm0
    have hl0 : l = [] := List.eq_nil_of_length_eq_zero (by simpa using hl)
    subst hl0
    rcases hv with ⟨rfl, rfl⟩ | ⟨g, cap, cur, rfl, hg, hnc, hcm, hcs, htake, hex⟩
    · refine ⟨.slice none 0 0, w, ?_, ⟨by simpa using hcl, .inl ⟨rfl, rfl⟩⟩, .inl ⟨Le.refl _, .inl rfl⟩⟩
      simp [Builtin.append_, run_underlying ht, sizeOf, typeInfo, hi, Builtin.lenOf, Builtin.firstCells]
    · refine ⟨.slice (some ⟨g, 0, none⟩) n cap, w, ?_, ⟨by simpa using hcl, .inr ⟨g, cap, cur, rfl, hg, hnc, hcm, hcs, by simpa using htake, by simp⟩⟩, .inr ⟨fun _ => rfl, g, rfl, rfl, ⟨rfl, rfl, rfl, Nat.le_refl _, fun _ _ _ => rfl⟩⟩⟩
      simp [Builtin.append_, run_underlying ht, sizeOf, typeInfo, hi, Builtin.lenOf, Builtin.firstCells, hnc, storeCells]
  | some ad =>
    have hnews : ∀ j u, l[j]? = some u → w.cell? (ad.add j) = some u := by
      rcases hsrc with h | ⟨ad', h, hh⟩
      · subst h
        have hl0 : l = [] := List.eq_nil_of_length_eq_zero (by simpa using hl)
        subst hl0
        intro j u hj
        simp at hj
      · cases h
        intro j u hj
        have := hh j u hj
        rwa [Nat.zero_add] at this
    rcases hv with ⟨rfl, rfl⟩ | ⟨g, cap, cur, rfl, hg, hnc, hcm, hcs, htake, hex⟩
    · have hx : cs = [] := List.eq_nil_of_length_eq_zero (by simpa using hcl)
      subst hx
      by_cases hm : m = 0
      · subst hm
        have hn : l = [] := List.eq_nil_of_length_eq_zero (by simpa using hl)
        subst hn
        refine ⟨.slice none 0 0, w, ?_, ⟨by simp, .inl ⟨rfl, rfl⟩⟩, .inl ⟨Le.refl _, .inl rfl⟩⟩
        simp [Builtin.append_, run_underlying ht, sizeOf, typeInfo, hi, Builtin.lenOf, Builtin.firstCells, loadCells, loadCellsFrom]
      · have hr := run_append_nil (P := P) w t ty e i z ht hi hzz ad m c l (by rw [hs]; exact hl) hnews (by omega) (by omega) (by rw [hby]; simp only [Nat.zero_add] at hb; omega)
        have hgr := grown 0 (by omega)
        simp only [Nat.zero_add, List.nil_append, Array.empty_append] at hgr ⊢
        exact ⟨_, _, hr, hgr, .inl ⟨hle _, .inr rfl⟩⟩
    · by_cases hroom : n + m ≤ cap
      · have hfit : n * i.size + l.length ≤ cur.size := by rw [hl, hs, hcs, ← Nat.add_mul]; exact Nat.mul_le_mul_right _ hroom
        have hr := run_append_room (P := P) w t ty e i ht hi g n cap cur hg ad m c l (by rw [hs]; exact hl) hnews h1 hroom hfit
        refine ⟨_, _, hr, ⟨hlen, .inr ⟨g, cap, _, rfl, setRow_heap w g cur _ e _ hg, hroom, hcm, ?_, ?_, by simp⟩⟩, .inr ⟨?_, g, rfl, rfl, Ch_setRow _ _ _⟩⟩
        · simp only [List.size_toArray, List.length_append, List.length_take, List.length_drop, Array.length_toList]
          omega
        · rw [hs, htake, ← hlen]
          exact List.take_left
        · intro he
          have := hex he
          omega
      · have holds : ∀ j u, cs[j]? = some u → w.cell? ((⟨g, 0, none⟩ : Addr).add j) = some u := by
          intro j u hu
          rw [Addr.add0, Nat.zero_add, cell_of_row w g j cur e (0, 0) hg]
          rw [← htake, List.getElem?_take] at hu
          split at hu
          · simpa using hu
          · cases hu
        have hr := run_append_grow (P := P) w t ty e i z ht hi hzz ⟨g, 0, none⟩ n cap cs (by rw [hs]; exact hcl) holds ad m c l (by rw [hs]; exact hl) hnews (by omega) (by omega) (growslice_fits (by omega) (by rw [hby]; exact hb))
        exact ⟨_, _, hr, grown cap (by omega), .inl ⟨hle _, .inr rfl⟩⟩

end
end Go.Vc
