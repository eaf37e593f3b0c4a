/-
  ModelLaw: a model of the call's own: each call leaves it as the plain model says; petasoslaw24.awake answers true; a nil model.
-/
import Derived.Test.YtkehhopdppampaaModelFind
namespace Go.Proofs.Ytkehhopdppampaa
set_option linter.unusedVariables false
set_option linter.unusedSimpArgs false
open Go.RowKit Go.Sort Go.Maps

/-- The program's model at p, its map in mb, the call's own; it knows M, at most n ids. -/
structure MW (w0 w : World) (p mb : Nat) (attrs : Int) (M : List Kn) (n : Nat) : Prop where
  nw : Nw w0 w
  rep : MRep (fun b => b = mb) w p mb attrs M
  mb0 : w0.heap.size ≤ mb
  srt : KSrt M
  wf : WfM M
  key : ∀ x ∈ M, x.is = true → x.r.id = x.id
  len : M.length ≤ n

theorem MW.nws {w0 w w' : World} {p mb : Nat} {attrs : Int} {M : List Kn} {n : Nat} (h : MW w0 w p mb attrs M n) (hk : Nw w w') : MW w0 w' p mb attrs M n :=
  ⟨h.nw.trans hk, h.rep.nw hk, h.mb0, h.srt, h.wf, h.key, h.len⟩
theorem MW.mbl {w0 w : World} {p mb : Nat} {attrs : Int} {M : List Kn} {n : Nat} (h : MW w0 w p mb attrs M n) : mb < w.heap.size := h.rep.lt.2
theorem MW.fresh {w0 w : World} {p mb : Nat} {attrs : Int} {M : List Kn} {n : Nat} (h : MW w0 w p mb attrs M n) : Fresh w.heap.size (fun b => b = mb) := fun b hb e => by have := h.mbl; have e : b = mb := e; omega
theorem MW.kp {w0 w w' : World} {p mb : Nat} {attrs : Int} {M : List Kn} {n : Nat} (h : MW w0 w p mb attrs M n) (hk : Kp (fun b => b = mb) w w') : Nw w0 w' := Nw.kpX h.nw hk (fun i e => by rw [e]; exact h.mb0)
theorem MW.start {w0 w : World} {p mb : Nat} {attrs : Int} (hn : Nw w0 w) (hr : MRep (fun b => True) w p mb attrs []) (hm : w0.heap.size ≤ mb) (n : Nat) : MW w0 w p mb attrs [] n :=
  ⟨hn, hr.mono (fun _ _ _ => trivial), hm, List.Pairwise.nil, (fun _ hx => nomatch hx), (fun _ hx => nomatch hx), Nat.zero_le _⟩
theorem key_put {attrs : Int} {M : List Kn} {r : Rec} (h : ∀ x ∈ M, x.is = true → x.r.id = x.id) : ∀ x ∈ mputM attrs M r, x.is = true → x.r.id = x.id := by
  unfold mputM
  split
  · intro x hx
    rcases mem_kput.1 hx with rfl | ⟨hx, _⟩
    · exact fun _ => rfl
    · exact h x hx
  · exact h
theorem key_del {M : List Kn} {id v : Int} (h : ∀ x ∈ M, x.is = true → x.r.id = x.id) : ∀ x ∈ mdelM M id v, x.is = true → x.r.id = x.id := by
  unfold mdelM
  split
  · intro x hx
    rcases mem_kput.1 hx with rfl | ⟨hx, _⟩
    · exact fun h => by cases h
    · exact h x hx
  · exact h

def PutD (w0 w : World) (p mb : Nat) (attrs : Int) (M : List Kn) (n : Nat) (r : Rec) (e : Ending) (w' : World) : Prop := e = .returned (.bool (mputB attrs M r)) ∧ MW w0 w' p mb attrs (mputM attrs M r) (n + 1) ∧ Kp (fun b => b = mb) w w'
theorem MW.put {w0 w : World} {p mb : Nat} {attrs : Int} {M : List Kn} {n : Nat} (h : MW w0 w p mb attrs M n) {v : Value} {r : Rec} (hr : RecV (fun b => b = mb) w v r) (wr : WfIn r) (hvl : r.vals.length ≤ 1000000000000) (hn : n ≤ 1000000000) :
    Calls Try.prog 24 #[.pointer (some ⟨p, 0, none⟩), v] w (PutD w0 w p mb attrs M n r) :=
  (mput_any (fun b => b = mb) p mb attrs M v r w h.rep rfl h.fresh hr wr.1 wr.2.1 hvl (Nat.le_trans h.len hn)).mono fun e w' ⟨he, hk, hg⟩ =>
    ⟨he, ⟨h.kp hk, hg, h.mb0, ksrt_put h.srt, wfM_put h.wf wr, key_put h.key, Nat.le_trans len_put (Nat.succ_le_succ h.len)⟩, hk⟩
def DelD (w0 w : World) (p mb : Nat) (attrs : Int) (M : List Kn) (n : Nat) (id v : Int) (e : Ending) (w' : World) : Prop := e = .returned (.bool (mdelB M id v)) ∧ MW w0 w' p mb attrs (mdelM M id v) (n + 1) ∧ Kp (fun b => b = mb) w w'
theorem MW.del {w0 w : World} {p mb : Nat} {attrs : Int} {M : List Kn} {n : Nat} (h : MW w0 w p mb attrs M n) {id v : Int} (wi : W64 id) (wv : W64 v) (hn : n ≤ 1000000000) :
    Calls Try.prog 29 #[.pointer (some ⟨p, 0, none⟩), .int .u64 id, .int .u64 v] w (DelD w0 w p mb attrs M n id v) :=
  (mdel_any (fun b => b = mb) p mb attrs M id v w h.rep rfl wi wv (Nat.le_trans h.len hn)).mono fun e w' ⟨he, hk, hg⟩ =>
    ⟨he, ⟨h.kp hk, hg, h.mb0, ksrt_del h.srt, wfM_del h.wf wi wv, key_del h.key, Nat.le_trans len_del (Nat.succ_le_succ h.len)⟩, hk⟩
def GetD (w : World) (x : Kn) (e : Ending) (w' : World) : Prop := ∃ s, e = .returned (.tuple #[.agg #[.int .u64 x.r.id, .int .u64 x.r.ver, s], .bool x.is]) ∧ Nw w w' ∧ ∀ Y, Fresh w.heap.size Y → Nums Y .u32 w' s x.r.vals
theorem MW.get {w0 w : World} {p mb : Nat} {attrs : Int} {M : List Kn} {n : Nat} (h : MW w0 w p mb attrs M n) {id : Int} (wi : W64 id) :
    Calls Try.prog 26 #[.pointer (some ⟨p, 0, none⟩), .int .u64 id] w (GetD w (kdef id M)) :=
  (mget_any (fun b => b = mb) p mb attrs M id w h.rep wi h.wf).mono fun e w' ⟨v, he, hn, hr⟩ => by
    obtain ⟨s, rfl, hs⟩ := RecV.fresh hr
    exact ⟨s, he, hn, hs⟩
theorem MW.lenC {w0 w : World} {p mb : Nat} {attrs : Int} {M : List Kn} {n : Nat} (h : MW w0 w p mb attrs M n) (hn : n ≤ 1000000000) :
    Calls Try.prog 32 #[.pointer (some ⟨p, 0, none⟩)] w fun e w' => e = .returned (.int .i64 (mlive M).length) ∧ Nw w w' :=
  mlen_any (fun b => b = mb) p mb attrs M w h.rep h.srt h.wf (Nat.le_trans h.len hn)
def FindD (w : World) (l : List Rec) (e : Ending) (w' : World) : Prop := ∃ a c, e = .returned (.slice a l.length c) ∧ Nw w w' ∧ FRecs w.heap.size w' (.slice a l.length c) l
theorem MW.find {w0 w : World} {p mb : Nat} {attrs : Int} {M : List Kn} {n : Nat} (h : MW w0 w p mb attrs M n) (hn : n ≤ 1000000000) {vb : Value} {b : List Rng} (hb : Rngs (fun b => b = mb) w vb b) (wb : WfB b) (hbl : b.length ≤ 1000000000000) :
    Calls Try.prog 25 #[.pointer (some ⟨p, 0, none⟩), vb] w (FindD w (mfindB attrs M b)) :=
  (mfind_any (fun b => b = mb) p mb attrs M vb b w h.rep hb h.srt h.wf wb (Nat.le_trans h.len hn) hbl).mono fun e w' ⟨v, he, hn, hr⟩ => by
    obtain ⟨a, c, rfl, _, _⟩ := hr (fun _ => False) (fun _ _ h => h)
    exact ⟨a, c, he, hn, hr⟩
theorem mfindB_len (attrs : Int) (M : List Kn) (b : List Rng) : (mfindB attrs M b).length ≤ M.length := by
  unfold mfindB
  split
  · unfold mfindL
    rw [List.length_map]
    exact List.length_filter_le _ _
  · simp

/-! ### awake -/
def oneRec24 : Rec := ⟨1, 1, [5]⟩
theorem wf_oneRec24 : WfIn oneRec24 := ⟨⟨by decide, by decide⟩, ⟨by decide, by decide⟩, fun j hj => by
  obtain rfl : j = 0 := by simpa [oneRec24] using hj
  exact ⟨by decide, by decide⟩⟩
set_option maxHeartbeats 1000000 in
theorem awake24_any (w : World) : Calls Try.prog 23 #[] w fun e w' => e = .returned (.bool true) ∧ Nw w w' := by
  have e1 : mputB 1 [] oneRec24 = true := by decide
  have e2 : mputM 1 [] oneRec24 = [⟨1, 1, true, oneRec24⟩] := by rfl
  have e3 : mfindB 1 [⟨1, 1, true, oneRec24⟩] anyBox = [oneRec24] := by rfl
  go_enter Try.func23, Try.ntmps23
  go_wp2_with fail
  refine (mnew_any 1 w).mono ?_
  rintro e W ⟨p, mb, rfl, hnw, hp, hmb, hG⟩
  have H1 := hid (MW.start hnw hG hmb 0)
  clear hnw hG
  go_wp2_with fail
  refine ((H1.out.nws (Gr.alloc W _).nw).put (r := oneRec24) ⟨_, rfl, nums_one W _ rfl .u32 5 _ (fun e => by have := H1.out.mbl; have e : W.heap.size = mb := e; omega)⟩ wf_oneRec24 (by simp [oneRec24]) (by omega)).mono ?_
  rintro e W2 ⟨rfl, hM2, hk2⟩
  rw [e1]
  rw [e2] at hM2
  have H2 := hid hM2
  clear hM2 hk2
  go_wp2_with fail
  refine (H2.out.lenC (by omega)).mono ?_
  rintro e W3 ⟨rfl, hn3⟩
  have e4 : (mlive [⟨1, 1, true, oneRec24⟩]).length = 1 := by decide
  rw [e4]
  have H3 := hid (H2.out.nws hn3)
  clear hn3
  go_wp2_with fail
  refine ((H3.out.nws (Gr.alloc W3 _).nw).find (by omega) (b := anyBox) (rngs_one W3 _ rfl 1 0 0 _ (fun e => by have := H3.out.mbl; have e : W3.heap.size = mb := e; omega)) wf_anyBox (by simp [anyBox])).mono ?_
  rw [e3]
  rintro e W4 ⟨a, c, rfl, hn4, hf4⟩
  have H4 := hid ((H3.out.nws (Gr.alloc W3 (.cells #[.int .i64 1, .int .u32 0, .int .u32 0] 41)).nw).nws hn4)
  clear hn4 hf4
  go_wp2
  go_ret
  exact ⟨rfl, H4.out.nw⟩

end Go.Proofs.Ytkehhopdppampaa
