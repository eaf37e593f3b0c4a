/-
  ModelL: a model, plain: what is known of each id, by rising ids.
-/
import Derived.Test.YtkehhopdppampaaRight
import Derived.Test.YtkehhopdppampaaPlaysL
namespace Go.Proofs.Ytkehhopdppampaa
set_option linter.unusedVariables false
set_option linter.unusedSimpArgs false
open Go.RowKit Go.Sort Go.Maps

structure Kn where
  id : Int
  ver : Int
  is : Bool
  r : Rec
instance : Inhabited Kn := ⟨⟨0, 0, false, ⟨0, 0, []⟩⟩⟩
def zRec : Rec := ⟨0, 0, []⟩
def kfind (k : Int) (M : List Kn) : Option Kn := M.find? fun x => decide (x.id = k)
def kins (x : Kn) : List Kn → List Kn
  | [] => [x]
  | y :: M => if x.id < y.id then x :: y :: M else y :: kins x M
def kput (x : Kn) (M : List Kn) : List Kn := kins x (M.filter fun y => decide (y.id ≠ x.id))
def kdef (k : Int) (M : List Kn) : Kn := (kfind k M).getD ⟨k, 0, false, zRec⟩
def mputB (attrs : Int) (M : List Kn) (r : Rec) : Bool := rightB attrs r && decide ((kdef r.id M).ver < r.ver)
def mputM (attrs : Int) (M : List Kn) (r : Rec) : List Kn := if mputB attrs M r then kput ⟨r.id, r.ver, true, r⟩ M else M
def mdelB (M : List Kn) (id v : Int) : Bool := (kdef id M).is && decide ((kdef id M).ver < v)
def mdelM (M : List Kn) (id v : Int) : List Kn := if mdelB M id v then kput ⟨id, v, false, zRec⟩ M else M
def mlive (M : List Kn) : List Kn := M.filter (·.is)
def mfindL (M : List Kn) (b : List Rng) : List Rec := (M.filter fun x => x.is && mB b x.r.vals).map (·.r)
def KSrt (M : List Kn) : Prop := M.Pairwise fun a b => a.id < b.id
def WfKn (x : Kn) : Prop := W64 x.id ∧ W64 x.ver ∧ W64 x.r.id ∧ W64 x.r.ver ∧ WfV x.r.vals ∧ x.r.vals.length ≤ 1000
def WfM (M : List Kn) : Prop := ∀ x ∈ M, WfKn x
def kx (M : List Kn) (i : Nat) : Kn := M.getD i default
theorem kx_get {M : List Kn} {i : Nat} (h : i < M.length) : kx M i = M[i] := by simp [kx, h]

theorem mem_kins {x z : Kn} : ∀ {M : List Kn}, z ∈ kins x M ↔ z = x ∨ z ∈ M
  | [] => by simp [kins]
  | y :: M => by
    unfold kins
    split
    · simp
    · rw [List.mem_cons, mem_kins, List.mem_cons]
      exact ⟨fun h => by rcases h with h | h | h <;> simp [h], fun h => by rcases h with h | h | h <;> simp [h]⟩
theorem mem_kput {x z : Kn} {M : List Kn} : z ∈ kput x M ↔ z = x ∨ (z ∈ M ∧ z.id ≠ x.id) := by
  unfold kput
  rw [mem_kins, List.mem_filter]
  simp
theorem kins_length (x : Kn) : ∀ M, (kins x M).length = M.length + 1
  | [] => rfl
  | y :: M => by unfold kins; split <;> simp [kins_length x M]
theorem kput_length (x : Kn) (M : List Kn) : (kput x M).length ≤ M.length + 1 := by
  unfold kput
  rw [kins_length]
  have := List.length_filter_le (fun y : Kn => decide (y.id ≠ x.id)) M
  omega
theorem ksrt_kins {x : Kn} : ∀ {M : List Kn}, KSrt M → (∀ y ∈ M, y.id ≠ x.id) → KSrt (kins x M)
  | [], _, _ => by simp [kins, KSrt]
  | y :: M, h, hne => by
    obtain ⟨h1, h2⟩ := List.pairwise_cons.1 h
    unfold kins
    split
    · rename_i hlt
      refine List.pairwise_cons.2 ⟨fun z hz => ?_, h⟩
      rcases List.mem_cons.1 hz with rfl | hz
      · exact hlt
      · have := h1 z hz; omega
    · rename_i hlt
      refine List.pairwise_cons.2 ⟨fun z hz => ?_, ksrt_kins h2 (fun y hy => hne y (List.mem_cons_of_mem _ hy))⟩
      have hy := hne y (List.mem_cons_self ..)
      rcases mem_kins.1 hz with rfl | hz
      · omega
      · exact h1 z hz
theorem ksrt_kput {x : Kn} {M : List Kn} (h : KSrt M) : KSrt (kput x M) := ksrt_kins (List.Pairwise.filter _ h) (fun y hy => by simpa using (List.mem_filter.1 hy).2)
theorem KSrt.uniq {M : List Kn} (h : KSrt M) {x y : Kn} (hx : x ∈ M) (hy : y ∈ M) (e : x.id = y.id) : x = y := by
  induction M with
  | nil => cases hx
  | cons z M ih =>
    obtain ⟨h1, h2⟩ := List.pairwise_cons.1 h
    rcases List.mem_cons.1 hx with ex | hx
    · rcases List.mem_cons.1 hy with ey | hy
      · rw [ex, ey]
      · have := h1 y hy; rw [ex] at e; omega
    · rcases List.mem_cons.1 hy with ey | hy
      · have := h1 x hx; rw [ey] at e; omega
      · exact ih h2 hx hy
theorem w64_0 : W64 0 := ⟨by decide, by decide⟩
theorem wf_zKn {k v : Int} (hk : W64 k) (hv : W64 v) : WfKn ⟨k, v, false, zRec⟩ := ⟨hk, hv, w64_0, w64_0, fun j hj => absurd hj (by simp [zRec]), by simp [zRec]⟩
theorem kfind_some {k : Int} {M : List Kn} {x : Kn} (h : kfind k M = some x) : x ∈ M ∧ x.id = k := by
  have h1 := List.mem_of_find?_eq_some h
  have h2 := List.find?_some h
  exact ⟨h1, by simpa using h2⟩
theorem kfind_none {k : Int} {M : List Kn} : kfind k M = none ↔ ∀ x ∈ M, x.id ≠ k := by
  unfold kfind
  rw [List.find?_eq_none]
  simp
theorem KSrt.kfind {M : List Kn} (h : KSrt M) {x : Kn} (hx : x ∈ M) : kfind x.id M = some x := by
  cases e : Go.Proofs.Ytkehhopdppampaa.kfind x.id M with
  | none => exact absurd rfl (kfind_none.1 e x hx)
  | some y => obtain ⟨hy, e2⟩ := kfind_some e; rw [h.uniq hy hx e2]
theorem kfind_kput {k : Int} {x : Kn} {M : List Kn} (h : KSrt M) : kfind k (kput x M) = if k = x.id then some x else kfind k M := by
  have hs := ksrt_kput (x := x) h
  split
  · rename_i e
    rw [e]
    exact hs.kfind (mem_kput.2 (Or.inl rfl))
  · rename_i e
    cases hf : kfind k M with
    | none =>
      rw [kfind_none] at hf ⊢
      intro z hz
      rcases mem_kput.1 hz with rfl | ⟨hz, _⟩
      · exact fun h => e h.symm
      · exact hf z hz
    | some y =>
      obtain ⟨hy, rfl⟩ := kfind_some hf
      exact hs.kfind (mem_kput.2 (Or.inr ⟨hy, e⟩))
theorem kdef_kput {k : Int} {x : Kn} {M : List Kn} (h : KSrt M) : kdef k (kput x M) = if k = x.id then x else kdef k M := by
  unfold kdef
  rw [kfind_kput h]
  split <;> rfl
theorem wf_kdef {k : Int} {M : List Kn} (h : WfM M) (hk : W64 k) : WfKn (kdef k M) := by
  unfold kdef
  cases e : kfind k M with
  | none => exact wf_zKn hk w64_0
  | some y => exact h y (kfind_some e).1
theorem wfM_kput {x : Kn} {M : List Kn} (h : WfM M) (hx : WfKn x) : WfM (kput x M) := fun z hz => by
  rcases mem_kput.1 hz with rfl | ⟨hz, _⟩
  · exact hx
  · exact h z hz
theorem ksrt_put {attrs : Int} {M : List Kn} {r : Rec} (h : KSrt M) : KSrt (mputM attrs M r) := by
  unfold mputM
  split
  · exact ksrt_kput h
  · exact h
theorem ksrt_del {M : List Kn} {id v : Int} (h : KSrt M) : KSrt (mdelM M id v) := by
  unfold mdelM
  split
  · exact ksrt_kput h
  · exact h
theorem wfM_put {attrs : Int} {M : List Kn} {r : Rec} (h : WfM M) (hr : W64 r.id ∧ W64 r.ver ∧ WfV r.vals) : WfM (mputM attrs M r) := by
  unfold mputM
  split
  · rename_i e
    have h2 := (Bool.and_eq_true_iff.1 e).1
    obtain ⟨a1, a2, a3, _⟩ := rightB_yes.1 h2
    exact wfM_kput h ⟨hr.1, hr.2.1, hr.1, hr.2.1, hr.2.2, by show r.vals.length ≤ 1000; omega⟩
  · exact h
theorem wfM_del {M : List Kn} {id v : Int} (h : WfM M) (hi : W64 id) (hv : W64 v) : WfM (mdelM M id v) := by
  unfold mdelM
  split
  · exact wfM_kput h (wf_zKn hi hv)
  · exact h
theorem len_put {attrs : Int} {M : List Kn} {r : Rec} : (mputM attrs M r).length ≤ M.length + 1 := by
  unfold mputM
  split
  · exact kput_length _ _
  · omega
theorem len_del {M : List Kn} {id v : Int} : (mdelM M id v).length ≤ M.length + 1 := by
  unfold mdelM
  split
  · exact kput_length _ _
  · omega

/-! ### pairs and what is known -/
/-- A known thing as a map's element. -/
def KnV (X : Nat → Prop) (w : World) (v : Value) (x : Kn) : Prop := ∃ s, v = .agg #[.int .u64 x.ver, .bool x.is, .int .u64 x.r.id, .int .u64 x.r.ver, s] ∧ Nums X .u32 w s x.r.vals
def KTied (X : Nat → Prop) (w : World) : List (Int × Value) → List Kn → Prop
  | [], [] => True
  | p :: L, x :: M => p.1 = x.id ∧ KnV X w p.2 x ∧ KTied X w L M
  | _, _ => False
section
variable {X : Nat → Prop} {w w' : World}
theorem KnV.kp {v : Value} {x : Kn} (h : KnV X w v x) (hk : Kp X w w') : KnV X w' v x := by
  obtain ⟨s, hv, hn⟩ := h
  exact ⟨s, hv, hn.kp hk⟩
theorem KnV.mono {Y : Nat → Prop} (hY : ∀ b, b < w.heap.size → Y b → X b) {v : Value} {x : Kn} (h : KnV X w v x) : KnV Y w v x := by
  obtain ⟨s, hv, hn⟩ := h
  exact ⟨s, hv, hn.mono hY⟩
theorem KTied.length : ∀ {L : List (Int × Value)} {M : List Kn}, KTied X w L M → L.length = M.length
  | [], [], _ => rfl
  | _ :: _, _ :: _, h => by simp [KTied.length h.2.2]
theorem KTied.kp (hk : Kp X w w') : ∀ {L : List (Int × Value)} {M : List Kn}, KTied X w L M → KTied X w' L M
  | [], [], _ => trivial
  | _ :: _, _ :: _, h => ⟨h.1, h.2.1.kp hk, KTied.kp hk h.2.2⟩
theorem KTied.mono {Y : Nat → Prop} (hY : ∀ b, b < w.heap.size → Y b → X b) : ∀ {L : List (Int × Value)} {M : List Kn}, KTied X w L M → KTied Y w L M
  | [], [], _ => trivial
  | _ :: _, _ :: _, h => ⟨h.1, h.2.1.mono hY, KTied.mono hY h.2.2⟩
theorem KTied.keys : ∀ {L : List (Int × Value)} {M : List Kn}, KTied X w L M → L.map (·.1) = M.map (·.id)
  | [], [], _ => rfl
  | _ :: _, _ :: _, h => by simp [h.1, KTied.keys h.2.2]
theorem KTied.filter {k : Int} : ∀ {L : List (Int × Value)} {M : List Kn}, KTied X w L M → KTied X w (L.filter fun p => decide (p.1 ≠ k)) (M.filter fun x => decide (x.id ≠ k))
  | [], [], _ => trivial
  | p :: L, x :: M, h => by
    have ih := KTied.filter (k := k) h.2.2
    by_cases e : p.1 = k
    · have e2 : x.id = k := by rw [← h.1]; exact e
      simpa [List.filter_cons, e, e2] using ih
    · have e2 : x.id ≠ k := by rw [← h.1]; exact e
      simp only [List.filter_cons, e, e2, ne_eq, not_false_eq_true, decide_true, if_true]
      exact ⟨h.1, h.2.1, ih⟩
theorem KTied.ins {v : Value} {x : Kn} (hv : KnV X w v x) : ∀ {L : List (Int × Value)} {M : List Kn}, KTied X w L M → KTied X w (mins x.id v L) (kins x M)
  | [], [], _ => ⟨rfl, hv, trivial⟩
  | p :: L, y :: M, h => by
    unfold mins kins
    rw [← h.1]
    split
    · exact ⟨rfl, hv, h⟩
    · exact ⟨h.1, h.2.1, KTied.ins hv h.2.2⟩
theorem KTied.put {v : Value} {x : Kn} (hv : KnV X w v x) {L : List (Int × Value)} {M : List Kn} (h : KTied X w L M) : KTied X w (mput x.id v L) (kput x M) := KTied.ins hv (KTied.filter h)
theorem nums_nil (k : IntKind) (w : World) : Nums X k w (.slice none 0 0) [] := ⟨none, 0, rfl, by simp, fun h => absurd h (by simp)⟩
/-- What a look-up finds. -/
theorem KTied.look {k : Int} : ∀ {L : List (Int × Value)} {M : List Kn}, KTied X w L M → KnV X w ((mfind k L).getD (.agg #[.int .u64 0, .bool false, .int .u64 0, .int .u64 0, .slice none 0 0])) (kdef k M)
  | [], [], _ => ⟨_, rfl, nums_nil _ _⟩
  | p :: L, x :: M, h => by
    by_cases e : x.id = k
    · have e2 : p.1 = k := by rw [h.1]; exact e
      simp only [mfind, kdef, kfind, List.find?_cons, e, e2, decide_true, Option.map_some, Option.getD_some]
      exact h.2.1
    · have e2 : p.1 ≠ k := by rw [h.1]; exact e
      simp only [mfind, kdef, kfind, List.find?_cons, e, e2, decide_false]
      exact KTied.look h.2.2
end

/-- At block p stands a model; its map lies in block mb. -/
def MRep (X : Nat → Prop) (w : World) (p mb : Nat) (attrs : Int) (M : List Kn) : Prop :=
  ∃ L, w.heap[p]? = some (.cells #[.int .i64 attrs, .map (some mb)] 88 (0, 0)) ∧ MapIs w mb L ∧ KTied X w L M
theorem MRep.kp {X Z : Nat → Prop} {w w' : World} {p mb : Nat} {attrs : Int} {M : List Kn} (h : MRep X w p mb attrs M) (hk : Kp Z w w') (hZ : ∀ k, k < w.heap.size → Z k → X k) (hp : ¬ Z p) (hm : ¬ Z mb) : MRep X w' p mb attrs M := by
  obtain ⟨L, hb, hL, ht⟩ := h
  exact ⟨L, hk.heap hb hp, hL.kp hk hm, ht.kp (hk.mono hZ)⟩
theorem MRep.nw {X : Nat → Prop} {w w' : World} {p mb : Nat} {attrs : Int} {M : List Kn} (h : MRep X w p mb attrs M) (hk : Nw w w') : MRep X w' p mb attrs M := h.kp hk (fun _ _ h => h.elim) (fun h => h) (fun h => h)
theorem MRep.mono {X Y : Nat → Prop} {w : World} {p mb : Nat} {attrs : Int} {M : List Kn} (h : MRep X w p mb attrs M) (hY : ∀ b, b < w.heap.size → Y b → X b) : MRep Y w p mb attrs M := by
  obtain ⟨L, hb, hL, ht⟩ := h
  exact ⟨L, hb, hL, ht.mono hY⟩
theorem MRep.ne {X : Nat → Prop} {w : World} {p mb : Nat} {attrs : Int} {M : List Kn} (h : MRep X w p mb attrs M) : p ≠ mb := by
  obtain ⟨L, hb, ⟨es, clock, hb', _⟩, ht⟩ := h
  rintro rfl
  rw [hb] at hb'
  cases hb'
theorem MRep.lt {X : Nat → Prop} {w : World} {p mb : Nat} {attrs : Int} {M : List Kn} (h : MRep X w p mb attrs M) : p < w.heap.size ∧ mb < w.heap.size := by
  obtain ⟨L, hb, hL, ht⟩ := h
  exact ⟨(Array.getElem?_eq_some_iff.1 hb).1, hL.lt⟩
theorem infoKn : (Try.prog.info? 91).map (fun i => (i.zero, i.size, i.bytes)) = some (some (.agg #[.int .u64 0, .bool false, .int .u64 0, .int .u64 0, .slice none 0 0]), 5, 56) := by kernel_rfl
theorem zeroKn (w : World) : (zeroValue 91).run Try.prog w = .ok (.agg #[.int .u64 0, .bool false, .int .u64 0, .int .u64 0, .slice none 0 0]) w := by
  obtain ⟨i0, hi, hz0, _, _⟩ := info_parts infoKn
  simp [zeroValue, typeInfo, hi, hz0]

theorem mnew_any (attrs : Int) (w : World) :
    Calls Try.prog 22 #[.int .i64 attrs] w fun e w' => ∃ p mb, e = .returned (.pointer (some ⟨p, 0, none⟩)) ∧ Nw w w' ∧ w.heap.size ≤ p ∧ w.heap.size ≤ mb ∧ MRep (fun b => True) w' p mb attrs [] := by
  have hmm := @run_makeMap Try.prog
  go_enter Try.func22, Try.ntmps22
  go_wp2
  go_ret
  refine ⟨_, _, rfl, ((Gr.alloc w _).trans (Gr.alloc _ _)).nw, ?_, Nat.le_refl _, [], ?_, ?_, trivial⟩
  · simp
  · have := heap_alloc_new (w.alloc (.map #[] 0)) (.cells #[.int .i64 attrs, .map (some w.heap.size)] 88); simpa using this
  · exact (MapIs.made w).kp (Gr.alloc _ _).nw (fun h => h)

end Go.Proofs.Ytkehhopdppampaa
