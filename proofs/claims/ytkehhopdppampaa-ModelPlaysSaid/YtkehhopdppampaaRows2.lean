/-
  Rows2: append by one law, whatever is appended; rows of records, ranges and numbers that a call owns; no program in sight.
-/
import Derived.Test.YtkehhopdppampaaMem
import Derived.Laws.AppendOwnNone
import Derived.Maps.AppendAt
set_option linter.unusedVariables false
set_option linter.unusedSimpArgs false
namespace Go.Proofs.Ytkehhopdppampaa
open Go.RowKit Go.Sort

/-- What is appended: m elements, the cells 'news'. -/
def SrcC (size : Nat) (w : World) (xv : Value) (m : Nat) (news : List Value) : Prop :=
  ∃ a c, xv = .slice a m c ∧ news.length = m * size ∧ (∀ u ∈ news, u.oneCell' = true) ∧ (0 < m → ∃ b o, a = some ⟨b, o, none⟩ ∧ ∀ (j : Nat) u, news[j]? = some u → w.cell? ⟨b, o + j, none⟩ = some u)

theorem addr_add (b o j : Nat) : (⟨b, o, none⟩ : Addr).add j = ⟨b, o + j, none⟩ := Addr.add_lit b o j

theorem run_app {P : Program} (w : World) (base : Nat) (t ty e : TypeId) (i : TypeInfo) (z : Value) (size bytes : Nat) (ht : P.underlying t = some (.slice e)) (hi : P.info? e = some i) (hz : i.zero = some z)
    (hsize : i.size = size) (hby : i.bytes = bytes) (hzs : z.cells.size = size) (hsz : 0 < size)
    (v : Value) (n : Nat) (xs : List Value) (hown : w.ownsRow base e size v n xs) (xv : Value) (m : Nat) (news : List Value) (hsrc : SrcC size w xv m news)
    (h63 : n + m ≤ maxLen) (hbytes : (n + m) * bytes ≤ 140737488355328) (hbase : base ≤ w.heap.size) :
    ∃ v' w', (Builtin.append_ #[t, t] ty #[v, xv]).run P w = .ok v' w' ∧ w'.ownsRow base e size v' (n + m) (xs ++ news) ∧ w.grownBy w' v.ownBlock ∧
      (v'.ownBlock = v.ownBlock ∨ v'.ownBlock = some w.heap.size) := by
  obtain ⟨a, c, rfl, hl, h1, hc⟩ := hsrc
  cases a with
  | some ad =>
    by_cases hm : 0 < m
    · obtain ⟨b, o, he, hcc⟩ := hc hm
      cases he
      obtain ⟨v', w', k1, k2, k3, _, k5⟩ := run_append_own_at (P := P) w base t ty e i z size bytes ht hi hz hsize hby hzs hsz v n xs hown ⟨b, o, none⟩ m c news hl (fun j u hu => by rw [addr_add]; exact hcc j u hu) h1 h63 hbytes hbase
      exact ⟨v', w', k1, k2, k3, k5⟩
    · have hm0 : m = 0 := by omega
      subst hm0
      have hn : news = [] := List.eq_nil_of_length_eq_zero (by simpa using hl)
      subst hn
      obtain ⟨v', w', k1, k2, k3, _, k5⟩ := run_append_own_at (P := P) w base t ty e i z size bytes ht hi hz hsize hby hzs hsz v n xs hown ad 0 c [] (by simp) (fun j u hu => by simp at hu) (fun u hu => by simp at hu) h63 hbytes hbase
      exact ⟨v', w', k1, k2, k3, k5⟩
  | none =>
    have hm0 : m = 0 := by
      rcases Nat.eq_zero_or_pos m with h | h
      · exact h
      · obtain ⟨b, o, he, _⟩ := hc h
        cases he
    subst hm0
    have hn : news = [] := List.eq_nil_of_length_eq_zero (by simpa using hl)
    subst hn
    refine ⟨v, w, ?_, by simpa using hown, ⟨rfl, rfl, rfl, Nat.le_refl _, fun _ _ _ => rfl⟩, by simp⟩
    have hf : (Builtin.firstCells i.size 0 (.slice none 0 c)).run P w = .ok #[] w := run_firstCells_none (P := P) w i.size 0 0 c
    rcases hown.2 with ⟨rfl, rfl⟩ | ⟨g, cap, cur, rfl, hbg, hg, hnc, hcm, hcs, htake⟩
    · simp [Builtin.append_, run_underlying ht, sizeOf, typeInfo, hi, Builtin.lenOf, Builtin.firstCells, loadCells, loadCellsFrom]
    · have hst := run_storeCells_at P g (n * i.size) e [] 0 cur w hg (by simp; rw [hcs, hsize]; exact Nat.mul_le_mul_right _ hnc) (fun u hu => by simp at hu)
      simp only [Nat.add_zero] at hst
      simp [Builtin.append_, run_underlying ht, sizeOf, typeInfo, hi, Builtin.lenOf, hnc, hf, storeCells]

theorem wpList_app {P : Program} {w : World} {ops : Array Oper} {rest : List Oper} {o : Oper} {a : Act} {Q : Exit → Act → World → Prop} (hgd : o.guard = none) (s x : Operand) (t : TypeId)
    (ho : o.op = .call { callee := .builtin .append, args := #[s, x], argTypes := #[t, t] })
    (base : Nat) (e : TypeId) (i : TypeInfo) (z : Value) (size bytes : Nat) (ht : P.underlying t = some (.slice e)) (hi : P.info? e = some i) (hz : i.zero = some z)
    (hsize : i.size = size) (hby : i.bytes = bytes) (hzs : z.cells.size = size) (hsz : 0 < size)
    (v : Value) (n : Nat) (xs : List Value) (hs : a.eval s = v) (hown : w.ownsRow base e size v n xs)
    (xv : Value) (m : Nat) (news : List Value) (hx : a.eval x = xv) (hsrc : SrcC size w xv m news)
    (h63 : n + m ≤ maxLen) (hbytes : (n + m) * bytes ≤ 140737488355328) (hbase : base ≤ w.heap.size)
    (h : ∀ v' w', w'.ownsRow base e size v' (n + m) (xs ++ news) → w.grownBy w' v.ownBlock → Hid (v'.ownBlock = v.ownBlock ∨ v'.ownBlock = some w.heap.size) → wpList P ops Q rest (a.put o.dst v') w') :
    wpList P ops Q (o :: rest) a w := by
  refine wpList_plain hgd fun K hK => ?_
  obtain ⟨v', w', hr, h2, h3, h4⟩ := run_app (P := P) w base t o.type e i z size bytes ht hi hz hsize hby hzs hsz v n xs hown xv m news hsrc h63 hbytes hbase
  unfold Oper.wp execOp
  simp only [ho, resolve, invoke, builtin, Sem.run_bind, Sem.run_pure, Result.andThen_ok, List.map_toArray, List.map_cons, List.map_nil, hs, hx, hr]
  exact hK _ _ (h v' w' h2 h3 (hid h4))

/-! ### rows of a fixed width -/
section
variable {α : Type} (f : Nat → α → List Value) (k : Nat)
/-- The cells of the elements, one behind the other; f is told the element's number. -/
def rowsFrom (f : Nat → α → List Value) : Nat → List α → List Value
  | _, [] => []
  | i, x :: r => f i x ++ rowsFrom f (i + 1) r
theorem rows_length (hk : ∀ i x, (f i x).length = k) : ∀ (l : List α) (i : Nat), (rowsFrom f i l).length = l.length * k
  | [], _ => by simp [rowsFrom]
  | x :: r, i => by rw [rowsFrom, List.length_append, hk, rows_length hk r (i + 1)]; simp [Nat.add_mul]; omega
theorem rows_snoc : ∀ (l : List α) (i : Nat) (x : α), rowsFrom f i (l ++ [x]) = rowsFrom f i l ++ f (i + l.length) x
  | [], i, x => by simp [rowsFrom]
  | y :: r, i, x => by
    rw [List.cons_append, rowsFrom, rowsFrom, rows_snoc r (i + 1) x, List.append_assoc]
    simp only [List.length_cons]
    rw [show i + 1 + r.length = i + (r.length + 1) by omega]
theorem rows_append : ∀ (l m : List α) (i : Nat), rowsFrom f i (l ++ m) = rowsFrom f i l ++ rowsFrom f (i + l.length) m
  | [], m, i => by simp [rowsFrom]
  | y :: r, m, i => by
    rw [List.cons_append, rowsFrom, rowsFrom, rows_append r m (i + 1), List.append_assoc]
    simp only [List.length_cons]
    rw [show i + 1 + r.length = i + (r.length + 1) by omega]
/-- Cell j*k + c is cell c of element j. -/
theorem rows_get (hk : ∀ i x, (f i x).length = k) : ∀ (l : List α) (i j c : Nat) (hj : j < l.length), c < k → (rowsFrom f i l)[j * k + c]? = (f (i + j) l[j])[c]?
  | [], _, _, _, hj, _ => absurd hj (by simp)
  | x :: r, i, 0, c, _, hc => by
    rw [rowsFrom, List.getElem?_append_left (by rw [hk]; omega)]
    simp
  | x :: r, i, j + 1, c, hj, hc => by
    rw [rowsFrom, List.getElem?_append_right (by rw [hk, Nat.add_mul]; omega), hk]
    rw [show (j + 1) * k + c - k = j * k + c by rw [Nat.add_mul]; omega]
    rw [rows_get hk r (i + 1) j c (by simpa using hj) hc]
    rw [show i + 1 + j = i + (j + 1) by omega]
    rfl
/-- Whatever cell: of which element. -/
theorem rows_of (hk : ∀ i x, (f i x).length = k) (hk0 : 0 < k) (l : List α) (i n : Nat) (u : Value) (h : (rowsFrom f i l)[n]? = some u) :
    ∃ j c, ∃ hj : j < l.length, c < k ∧ n = j * k + c ∧ (f (i + j) l[j])[c]? = some u := by
  have hn : n < l.length * k := by
    have := (List.getElem?_eq_some_iff.1 h).1
    rwa [rows_length f k hk] at this
  have hj : n / k < l.length := Nat.div_lt_of_lt_mul (by rwa [Nat.mul_comm] at hn)
  have hc : n % k < k := Nat.mod_lt _ hk0
  have e : n = n / k * k + n % k := by rw [Nat.mul_comm]; exact (Nat.div_add_mod n k).symm
  refine ⟨n / k, n % k, hj, hc, e, ?_⟩
  rw [← rows_get f k hk l i (n / k) (n % k) hj hc, ← e]
  exact h
theorem rows_mem : ∀ (l : List α) (i : Nat) (u : Value), u ∈ rowsFrom f i l → ∃ j, ∃ hj : j < l.length, u ∈ f (i + j) l[j]
  | [], _, _, h => by simp [rowsFrom] at h
  | x :: r, i, u, h => by
    rw [rowsFrom, List.mem_append] at h
    rcases h with h | h
    · exact ⟨0, by simp, by simpa using h⟩
    · obtain ⟨j, hj, hu⟩ := rows_mem r (i + 1) u h
      exact ⟨j + 1, by simpa using hj, by rw [show i + (j + 1) = i + 1 + j by omega]; simpa using hu⟩
end

/-! ### cells of numbers, ranges, records -/
def numC (k : IntKind) (_ : Nat) (x : Int) : List Value := [.int k x]
def rngC (_ : Nat) (r : Rng) : List Value := [.int .i64 r.kind, .int .u32 r.lo, .int .u32 r.hi]
def recC (S : Nat → Value) (j : Nat) (r : Rec) : List Value := [.int .u64 r.id, .int .u64 r.ver, S j]
theorem numC_len (k : IntKind) (i : Nat) (x : Int) : (numC k i x).length = 1 := rfl
theorem rngC_len (i : Nat) (r : Rng) : (rngC i r).length = 3 := rfl
theorem recC_len (S : Nat → Value) (i : Nat) (r : Rec) : (recC S i r).length = 3 := rfl
theorem slice_one {a : Option Addr} {n c : Nat} : (Value.slice a n c).oneCell' = true := rfl

theorem getAt {α : Type} {l : List α} {j : Nat} (hj : j < l.length) (d : α) : l.getD j d = l[j] := by simp [hj]

section
variable {X : Nat → Prop} {w : World}
theorem Nums.src {k : IntKind} {v : Value} {l : List Int} (h : Nums X k w v l) : SrcC 1 w v l.length (rowsFrom (numC k) 0 l) := by
  obtain ⟨a, cap, rfl, _, hc⟩ := h
  refine ⟨a, cap, rfl, rows_length _ 1 (numC_len k) l 0, fun u hu => ?_, fun hm => ?_⟩
  · obtain ⟨j, hj, hu⟩ := rows_mem _ l 0 u hu
    simp [numC] at hu
    rw [hu]; rfl
  · obtain ⟨b, o, ha, _, hcc⟩ := hc hm
    refine ⟨b, o, ha, fun n u hu => ?_⟩
    obtain ⟨j, c, hj, hc1, rfl, hu2⟩ := rows_of _ 1 (numC_len k) (by omega) l 0 n u hu
    obtain rfl : c = 0 := by omega
    have := hcc j hj
    rw [gx_get hj] at this
    simp [numC] at hu2
    subst hu2
    simpa using this
theorem Rngs.src {v : Value} {l : List Rng} (h : Rngs X w v l) : SrcC 3 w v l.length (rowsFrom rngC 0 l) := by
  obtain ⟨a, cap, rfl, _, hc⟩ := h
  refine ⟨a, cap, rfl, rows_length _ 3 rngC_len l 0, fun u hu => ?_, fun hm => ?_⟩
  · obtain ⟨j, hj, hu⟩ := rows_mem _ l 0 u hu
    simp [rngC] at hu
    rcases hu with rfl | rfl | rfl <;> rfl
  · obtain ⟨b, o, ha, _, hcc⟩ := hc hm
    refine ⟨b, o, ha, fun n u hu => ?_⟩
    obtain ⟨j, c, hj, hc1, rfl, hu2⟩ := rows_of _ 3 rngC_len (by omega) l 0 n u hu
    obtain ⟨c0, c1, c2⟩ := hcc j hj
    rw [bx_get hj] at c0 c1 c2
    rcases (by omega : c = 0 ∨ c = 1 ∨ c = 2) with rfl | rfl | rfl
    · simp [rngC] at hu2; subst hu2; simpa using c0
    · simp [rngC] at hu2; subst hu2; rw [← Nat.add_assoc]; exact c1
    · simp [rngC] at hu2; subst hu2; rw [← Nat.add_assoc]; exact c2
/-- The records' cells: which slices of values they bear. -/
theorem Recs.src {v : Value} {l : List Rec} (h : Recs X w v l) : ∃ S : Nat → Value, SrcC 3 w v l.length (rowsFrom (recC S) 0 l) ∧ ∀ j, j < l.length → Nums X .u32 w (S j) (rx l j).vals := by
  obtain ⟨a, cap, rfl, _, hc⟩ := h
  by_cases hm : 0 < l.length
  · obtain ⟨b, o, ha, hx, hcc⟩ := hc hm
    have hS : ∀ j, ∃ s, j < l.length → w.cell? ⟨b, o + j * 3, none⟩ = some (.int .u64 (rx l j).id) ∧ w.cell? ⟨b, o + j * 3 + 1, none⟩ = some (.int .u64 (rx l j).ver) ∧ w.cell? ⟨b, o + j * 3 + 2, none⟩ = some s ∧ Nums X .u32 w s (rx l j).vals := fun j => by
      by_cases hj : j < l.length
      · obtain ⟨s, hs⟩ := hcc j hj
        exact ⟨s, fun _ => hs⟩
      · exact ⟨default, fun h => absurd h hj⟩
    refine ⟨fun j => (hS j).choose, ⟨a, cap, rfl, rows_length _ 3 (recC_len _) l 0, fun u hu => ?_, fun _ => ⟨b, o, ha, fun n u hu => ?_⟩⟩, fun j hj => ((hS j).choose_spec hj).2.2.2⟩
    · obtain ⟨j, hj, hu⟩ := rows_mem _ l 0 u hu
      simp only [recC, Nat.zero_add, List.mem_cons, List.not_mem_nil, or_false] at hu
      rcases hu with rfl | rfl | hu
      · rfl
      · rfl
      · obtain ⟨a', c', hs, _⟩ := ((hS j).choose_spec hj).2.2.2
        rw [hu, hs]; rfl
    · obtain ⟨j, c, hj, hc1, rfl, hu2⟩ := rows_of _ 3 (recC_len _) (by omega) l 0 n u hu
      obtain ⟨c0, c1, c2, _⟩ := (hS j).choose_spec hj
      rw [rx_get hj] at c0 c1
      rcases (by omega : c = 0 ∨ c = 1 ∨ c = 2) with rfl | rfl | rfl
      · simp [recC] at hu2; subst hu2; simpa using c0
      · simp [recC] at hu2; subst hu2; rw [← Nat.add_assoc]; exact c1
      · simp only [recC, Nat.zero_add] at hu2
        rw [← Nat.add_assoc, c2]
        simpa using hu2
  · have : l = [] := List.eq_nil_of_length_eq_zero (by omega)
    subst this
    exact ⟨fun _ => default, ⟨a, cap, rfl, by simp [rowsFrom], fun u hu => by simp [rowsFrom] at hu, fun h => absurd h (by simp)⟩, fun j hj => absurd hj (by simp)⟩

/-- A row that a call owns reads as numbers, ranges, records. -/
theorem own_cells {base : Nat} {e : TypeId} {size : Nat} {v : Value} {n : Nat} {xs : List Value} (h : w.ownsRow base e size v n xs) (hX : ∀ b, base ≤ b → ¬ X b) :
    ∃ a cap, v = .slice a n cap ∧ n ≤ cap ∧ (0 < n → ∃ b, a = some ⟨b, 0, none⟩ ∧ ¬ X b ∧ ∀ (j : Nat) u, xs[j]? = some u → w.cell? ⟨b, j, none⟩ = some u) := by
  rcases h.2 with ⟨rfl, rfl⟩ | ⟨g, cap, cur, rfl, hbg, hg, hnc, hcm, hcs, htake⟩
  · exact ⟨none, 0, rfl, Nat.le_refl _, fun h => absurd h (by omega)⟩
  · refine ⟨some ⟨g, 0, none⟩, cap, rfl, hnc, fun _ => ⟨g, rfl, hX g hbg, fun j u hu => ?_⟩⟩
    have := h.cells (g := g) rfl j u hu
    rwa [addr_add, Nat.zero_add] at this
/-- The same, where X is told of the blocks that are there alone. -/
theorem own_cells_lt {base : Nat} {e : TypeId} {size : Nat} {v : Value} {n : Nat} {xs : List Value} (h : w.ownsRow base e size v n xs) (hX : ∀ b, base ≤ b → b < w.heap.size → ¬ X b) :
    ∃ a cap, v = .slice a n cap ∧ n ≤ cap ∧ (0 < n → ∃ b, a = some ⟨b, 0, none⟩ ∧ ¬ X b ∧ ∀ (j : Nat) u, xs[j]? = some u → w.cell? ⟨b, j, none⟩ = some u) := by
  rcases h.2 with ⟨rfl, rfl⟩ | ⟨g, cap, cur, rfl, hbg, hg, hnc, hcm, hcs, htake⟩
  · exact ⟨none, 0, rfl, Nat.le_refl _, fun h => absurd h (by omega)⟩
  · refine ⟨some ⟨g, 0, none⟩, cap, rfl, hnc, fun _ => ⟨g, rfl, hX g hbg (Array.getElem?_eq_some_iff.1 hg).1, fun j u hu => ?_⟩⟩
    have := h.cells (g := g) rfl j u hu
    rwa [addr_add, Nat.zero_add] at this
theorem own_rngs_lt {base : Nat} {e : TypeId} {v : Value} {l : List Rng} (h : w.ownsRow base e 3 v l.length (rowsFrom rngC 0 l)) (hX : ∀ b, base ≤ b → b < w.heap.size → ¬ X b) : Rngs X w v l := by
  obtain ⟨a, cap, hv, hl, hc⟩ := own_cells_lt h hX
  refine ⟨a, cap, hv, hl, fun hp => ?_⟩
  obtain ⟨b, ha, hx, hcc⟩ := hc hp
  refine ⟨b, 0, ha, hx, fun j hj => ?_⟩
  have g := fun c hc => rows_get rngC 3 rngC_len l 0 j c hj hc
  rw [bx_get hj]
  simp only [Nat.zero_add]
  refine ⟨hcc _ _ ?_, hcc _ _ ?_, hcc _ _ ?_⟩
  · have := g 0 (by omega); simp only [Nat.add_zero] at this; rw [this]; rfl
  · rw [g 1 (by omega)]; rfl
  · rw [g 2 (by omega)]; rfl
theorem own_nums {base : Nat} {e : TypeId} {k : IntKind} {v : Value} {l : List Int} (h : w.ownsRow base e 1 v l.length (rowsFrom (numC k) 0 l)) (hX : ∀ b, base ≤ b → ¬ X b) : Nums X k w v l := by
  obtain ⟨a, cap, hv, hl, hc⟩ := own_cells h hX
  refine ⟨a, cap, hv, hl, fun hp => ?_⟩
  obtain ⟨b, ha, hx, hcc⟩ := hc hp
  refine ⟨b, 0, ha, hx, fun j hj => ?_⟩
  have := rows_get (numC k) 1 (numC_len k) l 0 j 0 hj (by omega)
  simp only [Nat.mul_one, Nat.add_zero] at this
  rw [Nat.zero_add]
  refine hcc j _ ?_
  rw [this, gx_get hj]
  rfl
theorem own_rngs {base : Nat} {e : TypeId} {v : Value} {l : List Rng} (h : w.ownsRow base e 3 v l.length (rowsFrom rngC 0 l)) (hX : ∀ b, base ≤ b → ¬ X b) : Rngs X w v l := by
  obtain ⟨a, cap, hv, hl, hc⟩ := own_cells h hX
  refine ⟨a, cap, hv, hl, fun hp => ?_⟩
  obtain ⟨b, ha, hx, hcc⟩ := hc hp
  refine ⟨b, 0, ha, hx, fun j hj => ?_⟩
  have g := fun c hc => rows_get rngC 3 rngC_len l 0 j c hj hc
  rw [bx_get hj]
  simp only [Nat.zero_add]
  refine ⟨hcc _ _ ?_, hcc _ _ ?_, hcc _ _ ?_⟩
  · have := g 0 (by omega); simp only [Nat.add_zero] at this; rw [this]; rfl
  · rw [g 1 (by omega)]; rfl
  · rw [g 2 (by omega)]; rfl
theorem own_recs {base : Nat} {e : TypeId} {v : Value} {l : List Rec} {S : Nat → Value} (h : w.ownsRow base e 3 v l.length (rowsFrom (recC S) 0 l)) (hX : ∀ b, base ≤ b → ¬ X b) (hS : ∀ j, j < l.length → Nums X .u32 w (S j) (rx l j).vals) : Recs X w v l := by
  obtain ⟨a, cap, hv, hl, hc⟩ := own_cells h hX
  refine ⟨a, cap, hv, hl, fun hp => ?_⟩
  obtain ⟨b, ha, hx, hcc⟩ := hc hp
  refine ⟨b, 0, ha, hx, fun j hj => ⟨S j, ?_⟩⟩
  have g := fun c hc => rows_get (recC S) 3 (recC_len S) l 0 j c hj hc
  have hs := hS j hj
  rw [rx_get hj] at hs ⊢
  simp only [Nat.zero_add] at g ⊢
  refine ⟨hcc _ _ ?_, hcc _ _ ?_, hcc _ _ ?_, hs⟩
  · have := g 0 (by omega); simp only [Nat.add_zero] at this; rw [this]; rfl
  · rw [g 1 (by omega)]; rfl
  · rw [g 2 (by omega)]; rfl
end

end Go.Proofs.Ytkehhopdppampaa
