/-
  PlaysML: the model and the reference's, side by side: plain, and in memory.
-/
import Derived.Test.YtkehhopdppampaaRefDel
import Derived.Test.YtkehhopdppampaaOpens
namespace Go.Proofs.Ytkehhopdppampaa
set_option linter.unusedVariables false
set_option linter.unusedSimpArgs false
open Go.RowKit Go.Sort Go.Maps

/-! ### plain -/
structure PL (M : List Kn) (L : List Rec) (ids lst : List Int) (n : Nat) : Prop where
  srt : KSrt M
  wf : WfM M
  live : ∀ x ∈ M, x.is = true → x.r.id = x.id ∧ x.r.ver = x.ver
  dead : ∀ x ∈ M, x.is = false → x.r = zRec
  len : M.length ≤ n
  recs : L = (mlive M).map (·.r)
  ll : lst.length = ids.length
  il : ids.length ≤ n
  last : ∀ id, match kfind id M with
    | none => pidx id ids = none
    | some x => ∃ i, pidx id ids = some i ∧ gx lst i = x.ver
theorem PL.start : PL [] [] [] [] 0 :=
  ⟨List.Pairwise.nil, (fun _ h => nomatch h), (fun _ h => nomatch h), (fun _ h => nomatch h), Nat.le_refl _, rfl, rfl, Nat.le_refl _, fun _ => rfl⟩
theorem PL.mem {M : List Kn} {L : List Rec} {ids lst : List Int} {n : Nat} (h : PL M L ids lst n) {r : Rec} : r ∈ L ↔ ∃ x ∈ M, x.is = true ∧ x.r = r := by
  rw [h.recs, List.mem_map]
  unfold mlive
  simp only [List.mem_filter]
  exact ⟨fun ⟨x, ⟨a, b⟩, c⟩ => ⟨x, a, b, c⟩, fun ⟨x, a, b, c⟩ => ⟨x, ⟨a, b⟩, c⟩⟩
theorem PL.srtL {M : List Kn} {L : List Rec} {ids lst : List Int} {n : Nat} (h : PL M L ids lst n) : Srt L := by
  rw [h.recs]
  unfold Srt mlive
  rw [List.pairwise_map]
  refine List.Pairwise.imp_of_mem (fun {a c} ha hc hh => ?_) (List.Pairwise.filter _ h.srt)
  have ha' := List.mem_filter.1 ha
  have hc' := List.mem_filter.1 hc
  rw [(h.live a ha'.1 ha'.2).1, (h.live c hc'.1 hc'.2).1]
  exact hh
theorem PL.wfL {M : List Kn} {L : List Rec} {ids lst : List Int} {n : Nat} (h : PL M L ids lst n) : WfL L := by
  rw [wfL_iff]
  intro r hr
  obtain ⟨x, hx, _, rfl⟩ := h.mem.1 hr
  obtain ⟨_, _, a, b, c, d⟩ := h.wf x hx
  exact ⟨a, b, c, by omega⟩
theorem PL.lenL {M : List Kn} {L : List Rec} {ids lst : List Int} {n : Nat} (h : PL M L ids lst n) : L.length ≤ n := by
  rw [h.recs, List.length_map]
  exact Nat.le_trans (List.length_filter_le _ _) h.len
theorem PL.liveL {M : List Kn} {L : List Rec} {ids lst : List Int} {n : Nat} (h : PL M L ids lst n) : (mlive M).length = L.length := by rw [h.recs, List.length_map]
theorem PL.last_kdef {M : List Kn} {L : List Rec} {ids lst : List Int} {n : Nat} (h : PL M L ids lst n) {id v : Int} (hv : 1 ≤ v) : rnew id v ids lst = decide ((kdef id M).ver < v) := by
  have hl := h.last id
  unfold rnew kdef
  cases e : kfind id M with
  | none =>
    rw [e] at hl
    dsimp only at hl
    rw [hl]
    show true = decide ((0 : Int) < v)
    rw [decide_eq_true (by omega)]
  | some x =>
    rw [e] at hl
    obtain ⟨i, hi, hg⟩ := hl
    rw [hi]
    show decide (gx lst i < v) = decide (x.ver < v)
    rw [hg]
theorem PL.putB {M : List Kn} {L : List Rec} {ids lst : List Int} {n : Nat} (h : PL M L ids lst n) (attrs : Int) (r : Rec) : mputB attrs M r = rputOk attrs ids lst r := by
  unfold mputB rputOk
  cases hr : rightB attrs r with
  | false => rfl
  | true => rw [h.last_kdef (rightB_yes.1 hr).2.2.2.2]
theorem PL.find {M : List Kn} {L : List Rec} {ids lst : List Int} {n : Nat} (h : PL M L ids lst n) (id : Int) : rget id L = (kdef id M).r ∧ (rfind id L).isSome = (kdef id M).is := by
  have hnone : (kdef id M).is = false → rfind id L = none := fun hd => by
    unfold rfind
    rw [List.find?_eq_none]
    intro r hr
    obtain ⟨x, hx, hxi, rfl⟩ := h.mem.1 hr
    simp only [decide_eq_true_eq]
    rw [(h.live x hx hxi).1]
    intro e
    have : kdef id M = x := by unfold kdef; rw [← e, h.srt.kfind hx]; rfl
    rw [this, hxi] at hd
    cases hd
  cases hi : (kdef id M).is with
  | false =>
    have hf := hnone hi
    unfold rget
    rw [hf]
    refine ⟨?_, rfl⟩
    show zRec = (kdef id M).r
    unfold kdef at hi ⊢
    cases e : kfind id M with
    | none => rfl
    | some x =>
      rw [e] at hi
      exact (h.dead x (kfind_some e).1 hi).symm
  | true =>
    unfold kdef at hi ⊢
    cases e : kfind id M with
    | none => rw [e] at hi; cases hi
    | some x =>
      rw [e] at hi
      obtain ⟨hx, rfl⟩ := kfind_some e
      have hxr := (h.live x hx hi).1
      have hm : x.r ∈ L := h.mem.2 ⟨x, hx, hi, rfl⟩
      have hf : rfind x.id L = some x.r := by
        obtain ⟨j, hj, hje⟩ := List.getElem_of_mem hm
        have := h.srtL.find hj
        rw [rx_get hj, hje, hxr] at this
        exact this
      unfold rget
      rw [hf]
      exact ⟨rfl, rfl⟩
theorem PL.delB {M : List Kn} {L : List Rec} {ids lst : List Int} {n : Nat} (h : PL M L ids lst n) (id v : Int) : mdelB M id v = rdelOk L id v := by
  obtain ⟨f1, f2⟩ := h.find id
  unfold mdelB rdelOk
  rw [f1, f2]
  cases hi : (kdef id M).is with
  | false => rfl
  | true =>
    unfold kdef at hi ⊢
    cases e : kfind id M with
    | none => rw [e] at hi; cases hi
    | some x =>
      rw [e] at hi
      have := (h.live x (kfind_some e).1 hi).2
      show (true && decide (x.ver < v)) = (true && decide (x.r.ver < v))
      rw [this]
theorem PL.findL {M : List Kn} {L : List Rec} {ids lst : List Int} {n : Nat} (h : PL M L ids lst n) (attrs : Int) (b : List Rng) : mfindB attrs M b = rfindB attrs L b := by
  unfold mfindB rfindB
  split
  · rw [h.recs]
    unfold mfindL rhits mlive
    rw [List.filter_map, List.filter_filter]
    congr 1
    apply List.filter_congr
    intro x _
    simp [Function.comp, Bool.and_comm]
  · rfl

/-- The last version of an id, noted. -/
theorem PL.noted {M : List Kn} {L : List Rec} {ids lst : List Int} {n : Nat} (h : PL M L ids lst n) (x : Kn) : (pnoteL x.id x.ver ids lst).length = (pnoteI x.id ids).length ∧ (pnoteI x.id ids).length ≤ n + 1 ∧
    ∀ id, match kfind id (kput x M) with
    | none => pidx id (pnoteI x.id ids) = none
    | some y => ∃ i, pidx id (pnoteI x.id ids) = some i ∧ gx (pnoteL x.id x.ver ids lst) i = y.ver := by
  have hll := h.ll
  have hil := h.il
  cases hp : pidx x.id ids with
  | none =>
    have eI : pnoteI x.id ids = ids ++ [x.id] := by unfold pnoteI; rw [hp]
    have eL : pnoteL x.id x.ver ids lst = lst ++ [x.ver] := by unfold pnoteL; rw [hp]
    rw [eI, eL]
    refine ⟨by simp [hll], by simp; omega, fun id => ?_⟩
    rw [kfind_kput h.srt]
    by_cases e : id = x.id
    · rw [if_pos e, e]
      refine ⟨ids.length, ?_, by simp [gx, ← hll]⟩
      refine pidx_some (by simp) (fun j hj => ?_) (by simp [gx])
      unfold pidx at hp
      rw [List.findIdx?_eq_none_iff] at hp
      have := hp _ (List.getElem_mem hj)
      have e2 : gx (ids ++ [x.id]) j = ids[j] := by rw [gx_get (by simp; omega), List.getElem_append_left hj]
      rw [e2]
      simpa using this
    · rw [if_neg e]
      have hl := h.last id
      have happ : pidx id (ids ++ [x.id]) = pidx id ids := by
        unfold pidx
        rw [List.findIdx?_append]
        have : List.findIdx? (fun y => decide (y = id)) [x.id] = none := by simp [List.findIdx?_cons]; exact fun h => e h.symm
        rw [this]
        simp
      rw [happ]
      cases ef : kfind id M with
      | none => rw [ef] at hl; exact hl
      | some y =>
        rw [ef] at hl
        obtain ⟨i, hi, hg⟩ := hl
        refine ⟨i, hi, ?_⟩
        have := (pidx_lt hi).1
        rw [← hg]
        rw [gx_get (by simp; omega), gx_get (by omega), List.getElem_append_left (by omega)]
  | some k =>
    have eI : pnoteI x.id ids = ids := by unfold pnoteI; rw [hp]
    have eL : pnoteL x.id x.ver ids lst = lst.set k x.ver := by unfold pnoteL; rw [hp]
    obtain ⟨hk, hke⟩ := pidx_lt hp
    rw [eI, eL]
    refine ⟨by simp [hll], by omega, fun id => ?_⟩
    rw [kfind_kput h.srt]
    by_cases e : id = x.id
    · rw [if_pos e, e]
      exact ⟨k, hp, by simp [gx, show k < lst.length by omega]⟩
    · rw [if_neg e]
      have hl := h.last id
      cases ef : kfind id M with
      | none => rw [ef] at hl; exact hl
      | some y =>
        rw [ef] at hl
        obtain ⟨i, hi, hg⟩ := hl
        refine ⟨i, hi, ?_⟩
        obtain ⟨hi1, hi2⟩ := pidx_lt hi
        have hne : k ≠ i := fun h => e (by rw [← hi2, ← h]; exact hke)
        rw [← hg]
        simp [gx, List.getElem?_set, hne]
theorem live_kins {x : Kn} : ∀ {M : List Kn}, KSrt M → (∀ y ∈ M, y.id ≠ x.id) → (x.is = true → x.r.id = x.id) → (∀ y ∈ M, y.is = true → y.r.id = y.id) → (mlive (kins x M)).map (·.r) = if x.is then rins x.r ((mlive M).map (·.r)) else (mlive M).map (·.r)
  | [], _, _, _, _ => by cases h : x.is <;> simp [kins, mlive, h, rins]
  | y :: M, hs, hne, hx, hy => by
    obtain ⟨h1, h2⟩ := List.pairwise_cons.1 hs
    have ih := live_kins (x := x) (M := M) h2 (fun z hz => hne z (List.mem_cons_of_mem _ hz)) hx (fun z hz => hy z (List.mem_cons_of_mem _ hz))
    unfold kins
    by_cases hlt : x.id < y.id
    · rw [if_pos hlt]
      cases hxi : x.is with
      | false => simp [mlive, hxi]
      | true =>
        have hall : ∀ r ∈ (mlive (y :: M)).map (·.r), x.r.id < r.id := fun r hr => by
          obtain ⟨z, hz, rfl⟩ := List.mem_map.1 hr
          obtain ⟨hz1, hz2⟩ := List.mem_filter.1 hz
          rw [hy z hz1 hz2, hx hxi]
          rcases List.mem_cons.1 hz1 with rfl | hz1
          · exact hlt
          · have := h1 z hz1; omega
        have e1 : mlive (x :: y :: M) = x :: mlive (y :: M) := by simp [mlive, hxi]
        rw [e1, List.map_cons, if_pos rfl]
        generalize (mlive (y :: M)).map (·.r) = T at *
        cases T with
        | nil => rfl
        | cons t T => unfold rins; rw [if_pos (hall t (List.mem_cons_self ..))]
    · rw [if_neg hlt]
      have hyx : y.id < x.id := by have := hne y (List.mem_cons_self ..); omega
      cases hyi : y.is with
      | false =>
        have e1 : mlive (y :: kins x M) = mlive (kins x M) := by simp [mlive, hyi]
        have e2 : mlive (y :: M) = mlive M := by simp [mlive, hyi]
        rw [e1, e2, ih]
      | true =>
        have e1 : mlive (y :: kins x M) = y :: mlive (kins x M) := by simp [mlive, hyi]
        have e2 : mlive (y :: M) = y :: mlive M := by simp [mlive, hyi]
        rw [e1, e2, List.map_cons, List.map_cons, ih]
        cases hxi : x.is with
        | false => rfl
        | true =>
          rw [if_pos rfl, if_pos rfl]
          conv => rhs; unfold rins
          rw [if_neg]
          rw [hx hxi, hy y (List.mem_cons_self ..) hyi]
          omega
theorem PL.liveFilter {M : List Kn} {L : List Rec} {ids lst : List Int} {n : Nat} (h : PL M L ids lst n) (id : Int) : (mlive (M.filter fun y => decide (y.id ≠ id))).map (·.r) = dropL id L := by
  rw [h.recs]
  unfold mlive dropL
  rw [List.filter_map, List.filter_filter, List.filter_filter]
  congr 1
  apply List.filter_congr
  intro x hx
  cases hi : x.is with
  | false => simp
  | true => simp [Function.comp, (h.live x hx hi).1]
theorem PL.put {M : List Kn} {L : List Rec} {ids lst : List Int} {n : Nat} (h : PL M L ids lst n) (attrs : Int) (r : Rec) (hr : W64 r.id ∧ W64 r.ver ∧ WfV r.vals) :
    PL (mputM attrs M r) (if rputOk attrs ids lst r then rput r (dropL r.id L) else L) (if rputOk attrs ids lst r then pnoteI r.id ids else ids) (if rputOk attrs ids lst r then pnoteL r.id r.ver ids lst else lst) (n + 1) := by
  have hwf := wfM_put (attrs := attrs) h.wf hr
  rw [← h.putB attrs r]
  unfold mputM at hwf ⊢
  cases hb : mputB attrs M r with
  | false => exact ⟨h.srt, h.wf, h.live, h.dead, Nat.le_trans h.len (Nat.le_succ _), h.recs, h.ll, Nat.le_trans h.il (Nat.le_succ _), h.last⟩
  | true =>
    rw [hb] at hwf
    obtain ⟨n1, n2, n3⟩ := h.noted ⟨r.id, r.ver, true, r⟩
    refine ⟨ksrt_kput h.srt, hwf, ?_, ?_, Nat.le_trans (kput_length _ _) (Nat.succ_le_succ h.len), ?_, n1, n2, n3⟩
    · intro x hx hi
      rcases mem_kput.1 hx with rfl | ⟨hx, _⟩
      · exact ⟨rfl, rfl⟩
      · exact h.live x hx hi
    · intro x hx hi
      rcases mem_kput.1 hx with rfl | ⟨hx, _⟩
      · cases hi
      · exact h.dead x hx hi
    · simp only [if_true]
      have e : rput r (dropL r.id L) = rins r (dropL r.id L) := by
        unfold rput
        congr 1
        rw [List.filter_eq_self]
        intro y hy
        exact (List.mem_filter.1 hy).2
      rw [e]
      unfold kput
      rw [live_kins (List.Pairwise.filter _ h.srt) (fun y hy => by simpa using (List.mem_filter.1 hy).2) (fun _ => rfl) (fun y hy hi => (h.live y (List.mem_filter.1 hy).1 hi).1), if_pos rfl]
      exact (congrArg (rins r) (h.liveFilter r.id)).symm
theorem PL.del {M : List Kn} {L : List Rec} {ids lst : List Int} {n : Nat} (h : PL M L ids lst n) (id v : Int) (hi : W64 id) (hv : W64 v) :
    PL (mdelM M id v) (if rdelOk L id v then dropL id L else L) (if rdelOk L id v then pnoteI id ids else ids) (if rdelOk L id v then pnoteL id v ids lst else lst) (n + 1) := by
  have hwf := wfM_del (id := id) (v := v) h.wf hi hv
  rw [← h.delB id v]
  unfold mdelM at hwf ⊢
  cases hb : mdelB M id v with
  | false => exact ⟨h.srt, h.wf, h.live, h.dead, Nat.le_trans h.len (Nat.le_succ _), h.recs, h.ll, Nat.le_trans h.il (Nat.le_succ _), h.last⟩
  | true =>
    rw [hb] at hwf
    obtain ⟨n1, n2, n3⟩ := h.noted ⟨id, v, false, zRec⟩
    refine ⟨ksrt_kput h.srt, hwf, ?_, ?_, Nat.le_trans (kput_length _ _) (Nat.succ_le_succ h.len), ?_, n1, n2, n3⟩
    · intro x hx hi
      rcases mem_kput.1 hx with rfl | ⟨hx, _⟩
      · cases hi
      · exact h.live x hx hi
    · intro x hx hi
      rcases mem_kput.1 hx with rfl | ⟨hx, _⟩
      · rfl
      · exact h.dead x hx hi
    · simp only [if_true]
      unfold kput
      rw [live_kins (List.Pairwise.filter _ h.srt) (fun y hy => by simpa using (List.mem_filter.1 hy).2) (fun h => by cases h) (fun y hy hi => (h.live y (List.mem_filter.1 hy).1 hi).1)]
      exact (h.liveFilter id).symm

/-! ### in memory -/
/-- A block that holds a map holds no list. -/
theorem Nums.notMap {X : Nat → Prop} {k : IntKind} {w : World} {v : Value} {l : List Int} (h : Nums X k w v l) {mb : Nat} {es : Array MapEntry} {c : Nat} (hm : w.heap[mb]? = some (.map es c)) : Nums (fun b => X b ∨ b = mb) k w v l := by
  obtain ⟨a, cap, hv, hl, h⟩ := h
  refine ⟨a, cap, hv, hl, fun hp => ?_⟩
  obtain ⟨b, o, ha, hx, hc⟩ := h hp
  refine ⟨b, o, ha, fun e => e.elim hx (fun e => ?_), hc⟩
  have := hc 0 hp
  rw [e] at this
  simp [World.cell?, hm] at this
theorem Recs.notMap {X : Nat → Prop} {w : World} {v : Value} {l : List Rec} (h : Recs X w v l) {mb : Nat} {es : Array MapEntry} {c : Nat} (hm : w.heap[mb]? = some (.map es c)) : Recs (fun b => X b ∨ b = mb) w v l := by
  obtain ⟨a, cap, hv, hl, h⟩ := h
  refine ⟨a, cap, hv, hl, fun hp => ?_⟩
  obtain ⟨b, o, ha, hx, hc⟩ := h hp
  refine ⟨b, o, ha, fun e => e.elim hx (fun e => ?_), fun j hj => ?_⟩
  · obtain ⟨s, h0, _⟩ := hc 0 hp
    rw [e] at h0
    simp [World.cell?, hm] at h0
  · obtain ⟨s, h0, h1, h2, h3⟩ := hc j hj
    exact ⟨s, h0, h1, h2, h3.notMap hm⟩
/-- Both models, the call's own. -/
def QP (w0 w : World) (p mb q : Nat) (attrs : Int) (M : List Kn) (L : List Rec) (ids lst : List Int) : Prop :=
  ∃ Z : Nat → Prop, RM w0.heap.size Z w q attrs L ids lst ∧ MRep (fun b => b = mb ∨ Z b) w p mb attrs M ∧ Nw w0 w ∧ w0.heap.size ≤ mb ∧ ¬ Z p ∧ ¬ Z mb
theorem QP.nw {w0 w : World} {p mb q : Nat} {attrs : Int} {M : List Kn} {L : List Rec} {ids lst : List Int} (h : QP w0 w p mb q attrs M L ids lst) : Nw w0 w := by
  obtain ⟨Z, _, _, h, _⟩ := h
  exact h
theorem QP.nws {w0 w w' : World} {p mb q : Nat} {attrs : Int} {M : List Kn} {L : List Rec} {ids lst : List Int} (h : QP w0 w p mb q attrs M L ids lst) (hk : Nw w w') : QP w0 w' p mb q attrs M L ids lst := by
  obtain ⟨Z, h1, h2, h3, h4⟩ := h
  exact ⟨Z, h1.nw hk, h2.nw hk, h3.trans hk, h4⟩
/-- What such a call leaves: of what the caller had nothing has turned. -/
def QD (v : Value) (w0 w : World) (p mb q : Nat) (attrs : Int) (M : List Kn) (L : List Rec) (ids lst : List Int) (e : Ending) (w' : World) : Prop :=
  e = .returned v ∧ QP w0 w' p mb q attrs M L ids lst ∧ Kp (Old w0) w w'
theorem QP.mturn {w0 w w' : World} {p mb q : Nat} {attrs : Int} {M M' : List Kn} {L : List Rec} {ids lst : List Int} {Z : Nat → Prop} (h1 : RM w0.heap.size Z w q attrs L ids lst) (h2 : MRep (fun b => b = mb ∨ Z b) w p mb attrs M) (h3 : Nw w0 w) (h4 : w0.heap.size ≤ mb) (h5 : ¬ Z p) (h6 : ¬ Z mb)
    (hk : Kp (fun b => b = mb) w w') (hm : MRep (fun b => b = mb ∨ Z b) w' p mb attrs M') : QP w0 w' p mb q attrs M' L ids lst ∧ Kp (Old w0) w w' := by
  obtain ⟨La, hb, ⟨es, clock, hmb, _⟩, ht⟩ := h2
  refine ⟨⟨Z, h1.kp (Y := fun _ => False) hk (fun b hz e => h6 (by rw [← e]; exact hz)) (fun v hv => ?_), hm, Nw.kpX h3 hk (fun i e => by rw [e]; exact h4), h4, h5, h6⟩, hk.mono (fun b _ e => by rw [e]; exact h4)⟩
  exact ((hv.notMap hmb).kp (hk.mono (fun b _ e => Or.inr e))).mono (fun b _ e => Or.inl e)
theorem QP.mput {w0 w : World} {p mb q : Nat} {attrs : Int} {M : List Kn} {L : List Rec} {ids lst : List Int} (h : QP w0 w p mb q attrs M L ids lst) {v : Value} {r : Rec} (hr : RecV (Old w0) w v r) (wr : WfIn r) (hvl : r.vals.length ≤ 1000000000000) (hM : M.length ≤ 1000000000) :
    Calls Try.prog 24 #[.pointer (some ⟨p, 0, none⟩), v] w (QD (.bool (mputB attrs M r)) w0 w p mb q attrs (mputM attrs M r) L ids lst) := by
  obtain ⟨Z, h1, h2, h3, h4, h5, h6⟩ := h
  have hZ : ∀ b, Z b → w0.heap.size ≤ b ∧ b < w.heap.size := by obtain ⟨_, _, _, _, _, _, _, _, _, _, _, _, _, h⟩ := h1; exact h
  have hml := h2.lt.2
  refine (mput_any (fun b => b = mb ∨ Z b) p mb attrs M v r w h2 (Or.inl rfl) (fun b hb e => by rcases e with e | e; omega; have := (hZ b e).2; omega) (hr.mono (fun b _ e => by rcases e with e | e; rw [e]; exact h4; exact (hZ b e).1)) wr.1 wr.2.1 hvl hM).mono fun e w' ⟨he, hk, hg⟩ => ?_
  obtain ⟨a, b⟩ := QP.mturn h1 h2 h3 h4 h5 h6 hk hg
  exact ⟨he, a, b⟩
theorem QP.mdel {w0 w : World} {p mb q : Nat} {attrs : Int} {M : List Kn} {L : List Rec} {ids lst : List Int} (h : QP w0 w p mb q attrs M L ids lst) {id v : Int} (wi : W64 id) (wv : W64 v) (hM : M.length ≤ 1000000000) :
    Calls Try.prog 29 #[.pointer (some ⟨p, 0, none⟩), .int .u64 id, .int .u64 v] w (QD (.bool (mdelB M id v)) w0 w p mb q attrs (mdelM M id v) L ids lst) := by
  obtain ⟨Z, h1, h2, h3, h4, h5, h6⟩ := h
  refine (mdel_any (fun b => b = mb ∨ Z b) p mb attrs M id v w h2 (Or.inl rfl) wi wv hM).mono fun e w' ⟨he, hk, hg⟩ => ?_
  obtain ⟨a, b⟩ := QP.mturn h1 h2 h3 h4 h5 h6 hk hg
  exact ⟨he, a, b⟩
theorem QP.rturn {w0 w w' : World} {p mb q : Nat} {attrs : Int} {M : List Kn} {L L' : List Rec} {ids lst ids' lst' : List Int} {Z Z' : Nat → Prop} (h1 : RM w0.heap.size Z w q attrs L ids lst) (h2 : MRep (fun b => b = mb ∨ Z b) w p mb attrs M) (h3 : Nw w0 w) (h4 : w0.heap.size ≤ mb) (h5 : ¬ Z p) (h6 : ¬ Z mb)
    (ht : Turned Z w w' Z') (hr : RM w0.heap.size Z' w' q attrs L' ids' lst') : QP w0 w' p mb q attrs M L' ids' lst' ∧ Kp (Old w0) w w' := by
  have hZ : ∀ b, Z b → w0.heap.size ≤ b ∧ b < w.heap.size := by obtain ⟨_, _, _, _, _, _, _, _, _, _, _, _, _, h⟩ := h1; exact h
  obtain ⟨hp, hm⟩ := h2.lt
  have hk : Kp (Old w0) w w' := ht.1.mono (fun b _ e => (hZ b e).1)
  have m1 : MRep (fun b => (b = mb ∨ Z b) ∨ w.heap.size ≤ b) w p mb attrs M := h2.mono (fun b hb e => e.elim (fun h => h) (fun h => by omega))
  refine ⟨⟨Z', hr, (m1.kp ht.1 (fun b _ e => Or.inl (Or.inr e)) h5 h6).mono (fun b _ e => ?_), Nw.kpX h3 ht.1 (fun i e => (hZ i e).1), h4, fun e => ?_, fun e => ?_⟩, hk⟩
  · rcases e with e | e
    · exact Or.inl (Or.inl e)
    · exact (ht.2 b e).elim (fun h => Or.inl (Or.inr h)) Or.inr
  · rcases ht.2 p e with e | e
    · exact h5 e
    · omega
  · rcases ht.2 mb e with e | e
    · exact h6 e
    · omega
theorem QP.rput {w0 w : World} {p mb q : Nat} {attrs : Int} {M : List Kn} {L : List Rec} {ids lst : List Int} (h : QP w0 w p mb q attrs M L ids lst) {v : Value} {r : Rec} (hr : RecV (Old w0) w v r) (wr : WfIn r) (hvl : r.vals.length ≤ 1000000000000) (hn : L.length ≤ 100000000) (hs : Srt L) (hlen : lst.length = ids.length) (hin : ids.length ≤ 1000000000) :
    Calls Try.prog 31 #[.pointer (some ⟨q, 0, none⟩), v] w (QD (.bool (rputOk attrs ids lst r)) w0 w p mb q attrs M (if rputOk attrs ids lst r then rput r (dropL r.id L) else L) (if rputOk attrs ids lst r then pnoteI r.id ids else ids) (if rputOk attrs ids lst r then pnoteL r.id r.ver ids lst else lst)) := by
  obtain ⟨Z, h1, h2, h3, h4, h5, h6⟩ := h
  have hZ : ∀ b, Z b → w0.heap.size ≤ b ∧ b < w.heap.size := by obtain ⟨_, _, _, _, _, _, _, _, _, _, _, _, _, h⟩ := h1; exact h
  refine (refPut_any w0.heap.size Z q attrs L ids lst v r w h1 h3.size (hr.mono (fun b _ e => (hZ b e).1)) hn hs hlen hin wr.1 wr.2.1 hvl).mono fun e w' ⟨he, Z', ht, hg⟩ => ?_
  obtain ⟨a, b⟩ := QP.rturn h1 h2 h3 h4 h5 h6 ht hg
  exact ⟨he, a, b⟩
theorem QP.rdel {w0 w : World} {p mb q : Nat} {attrs : Int} {M : List Kn} {L : List Rec} {ids lst : List Int} (h : QP w0 w p mb q attrs M L ids lst) {id v : Int} (hn : L.length ≤ 100000000) (hW : WfL L) (hlen : lst.length = ids.length) (hin : ids.length ≤ 1000000000) :
    Calls Try.prog 30 #[.pointer (some ⟨q, 0, none⟩), .int .u64 id, .int .u64 v] w (QD (.bool (rdelOk L id v)) w0 w p mb q attrs M (if rdelOk L id v then dropL id L else L) (if rdelOk L id v then pnoteI id ids else ids) (if rdelOk L id v then pnoteL id v ids lst else lst)) := by
  obtain ⟨Z, h1, h2, h3, h4, h5, h6⟩ := h
  refine (refDel_any w0.heap.size Z q attrs L ids lst id v w h1 h3.size hn hW hlen hin).mono fun e w' ⟨he, Z', ht, hg⟩ => ?_
  obtain ⟨a, b⟩ := QP.rturn h1 h2 h3 h4 h5 h6 ht hg
  exact ⟨he, a, b⟩

end Go.Proofs.Ytkehhopdppampaa
