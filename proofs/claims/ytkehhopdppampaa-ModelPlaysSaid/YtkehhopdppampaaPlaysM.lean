/-
  PlaysM: petasoslaw24.ModelPlays, walked: it answers true and turns nothing that was there.
-/
import Derived.Test.YtkehhopdppampaaPlaysML
namespace Go.Proofs.Ytkehhopdppampaa
set_option linter.unusedVariables false
set_option linter.unusedSimpArgs false
open Go.RowKit Go.Sort Go.Maps Go.ChangeShapes Go.WideShapes Go.ChangeAt

structure Op24 where
  erase : Bool
  r : Rec
instance : Inhabited Op24 := ⟨⟨false, zRec⟩⟩
def ox (l : List Op24) (i : Nat) : Op24 := l.getD i default
/-- A slice of deeds. -/
def Ops24 (X : Nat → Prop) (w : World) (v : Value) (l : List Op24) : Prop :=
  ∃ a cap, v = .slice a l.length cap ∧ l.length ≤ cap ∧ (0 < l.length → ∃ b o, a = some ⟨b, o, none⟩ ∧ ¬ X b ∧ ∀ j, j < l.length →
    ∃ s, w.cell? ⟨b, o + j * 4, none⟩ = some (.bool (ox l j).erase) ∧ w.cell? ⟨b, o + j * 4 + 1, none⟩ = some (.int .u64 (ox l j).r.id) ∧ w.cell? ⟨b, o + j * 4 + 2, none⟩ = some (.int .u64 (ox l j).r.ver) ∧ w.cell? ⟨b, o + j * 4 + 3, none⟩ = some s ∧ Nums X .u32 w s (ox l j).r.vals)

section
variable {H : Type} {enc : TypeId × Value → H} {W : World} {hd : Bool} {fuel : Nat}
theorem cellsOp : Try.prog.cellsOf 66 = 4 := by kernel_rfl
theorem bool_cell24 {t : TypeId} {l : List Value} {y : DataW H × List MemPlace} (ht : Try.prog.underlying t = some .bool) (h : DataW.trod enc Try.prog W 0 (fun _ => true) hd fuel t l = some y) : ∃ b, l = [.bool b] := by
  match l, h with
  | [c], h =>
    cases fuel with
    | zero => simp [DataW.trod] at h
    | succ fuel =>
      cases c <;> simp [DataW.trod, ht] at h
      exact ⟨_, rfl⟩
  | [], h => cases fuel <;> simp [DataW.trod, ht] at h
  | _ :: _ :: _, h => cases fuel <;> simp [DataW.trod, ht] at h
theorem cellsBool24 : Try.prog.cellsOf 4 = 1 := by kernel_rfl
set_option maxRecDepth 100000 in
theorem op_cells {cs : List Value} {y : DataW H × List MemPlace} (h : DataW.trod enc Try.prog W 0 (fun _ => true) hd fuel 66 cs = some y) :
    ∃ (x : Op24) (s : Value), cs = [.bool x.erase, .int .u64 x.r.id, .int .u64 x.r.ver, s] ∧ Nums (Old W) .u32 W s x.r.vals ∧ WfIn x.r := by
  obtain ⟨y0, y1, n, _, hl, h0, h1⟩ := trod_struct2 Try.underlying66 h
  rw [cellsOp] at hl
  obtain ⟨a, b, c, d, rfl⟩ : ∃ a b c d, cs = [a, b, c, d] := by
    match cs, hl with
    | [a, b, c, d], _ => exact ⟨a, b, c, d, rfl⟩
  simp only [cellsBool24, cellsRec, List.drop_zero, List.drop_succ_cons, List.take_succ_cons, List.take_zero] at h0 h1
  obtain ⟨z0, e0⟩ := bool_cell24 Try.underlying4 h0
  obtain ⟨r, s, e1, hn, hw0, hw1, hw2⟩ := rec_cells h1
  cases e0; cases e1
  exact ⟨⟨z0, r⟩, _, rfl, hn, hw0, hw1, hw2⟩
theorem opened_ops24 {cs : List Value} {x : DataW H × List MemPlace} (h : DataW.trod enc Try.prog W 0 (fun _ => true) hd fuel 61 cs = some x) :
    ∃ v l, cs = [v] ∧ Ops24 (Old W) W v l ∧ l.length ≤ 9223372036854775807 ∧ ∀ j, j < l.length → WfIn (ox l j).r := by
  obtain ⟨a, len, cap, rfl, hl, hm, hx⟩ := slice_cells Try.underlying61 cellsOp (by omega) h
  by_cases hp : 0 < len
  · obtain ⟨b, o, rfl, hb, hx⟩ := hx hp
    have hf : ∀ j, j < len → ∃ r : Op24, (∃ s, W.cell? ⟨b, o + j * 4, none⟩ = some (.bool r.erase) ∧ W.cell? ⟨b, o + j * 4 + 1, none⟩ = some (.int .u64 r.r.id) ∧ W.cell? ⟨b, o + j * 4 + 2, none⟩ = some (.int .u64 r.r.ver) ∧ W.cell? ⟨b, o + j * 4 + 3, none⟩ = some s ∧ Nums (Old W) .u32 W s r.r.vals) ∧ WfIn r.r := fun j hj => by
      obtain ⟨cs', n, y, h1, h2, h3⟩ := hx j hj
      obtain ⟨r, s, rfl, hn, hw⟩ := op_cells h3
      exact ⟨r, ⟨s, h2 0 (by omega), h2 1 (by omega), h2 2 (by omega), h2 3 (by omega), hn⟩, hw⟩
    obtain ⟨f, hf⟩ := Deep.choose_lt hf
    have hlen : ((List.range len).map f).length = len := by simp
    have hg : ∀ j, j < len → ox ((List.range len).map f) j = f j := fun j hj => by simp [ox, hj]
    refine ⟨_, (List.range len).map f, rfl, ⟨some ⟨b, o, none⟩, cap, by rw [hlen], by omega, fun _ => ⟨b, o, rfl, hb, fun j hj => ?_⟩⟩, by omega, fun j hj => ?_⟩
    · rw [hg j (by omega)]; exact (hf j (by omega)).1
    · rw [hg j (by omega)]; exact (hf j (by omega)).2
  · obtain rfl : len = 0 := by omega
    exact ⟨_, [], rfl, ⟨a, cap, rfl, by simp, fun h => absurd h (by simp)⟩, by simp, fun j hj => absurd hj (by simp)⟩
end
/-- Gets, Finds of both. -/
theorem QP.mget {w0 w : World} {p mb q : Nat} {attrs : Int} {M : List Kn} {L : List Rec} {ids lst : List Int} (h : QP w0 w p mb q attrs M L ids lst) {id : Int} (wi : W64 id) (hW : WfM M) :
    Calls Try.prog 26 #[.pointer (some ⟨p, 0, none⟩), .int .u64 id] w (GetD w (kdef id M)) := by
  obtain ⟨Z, h1, h2, _⟩ := h
  refine (mget_any _ p mb attrs M id w h2 wi hW).mono fun e w' ⟨v, he, hn, hr⟩ => ?_
  obtain ⟨s, rfl, hs⟩ := RecV.fresh hr
  exact ⟨s, he, hn, hs⟩
theorem QP.rget {w0 w : World} {p mb q : Nat} {attrs : Int} {M : List Kn} {L : List Rec} {ids lst : List Int} (h : QP w0 w p mb q attrs M L ids lst) {id : Int} (hn : L.length ≤ 1000000000) (hW : WfL L) :
    Calls Try.prog 33 #[.pointer (some ⟨q, 0, none⟩), .int .u64 id] w (GetR w (Go.Proofs.Ytkehhopdppampaa.rget id L) (rfind id L).isSome) := by
  obtain ⟨Z, h1, _⟩ := h
  exact refGet_any _ Z q attrs L ids lst id w h1 hn hW
theorem QP.mlenC {w0 w : World} {p mb q : Nat} {attrs : Int} {M : List Kn} {L : List Rec} {ids lst : List Int} (h : QP w0 w p mb q attrs M L ids lst) (hs : KSrt M) (hW : WfM M) (hM : M.length ≤ 1000000000) :
    Calls Try.prog 32 #[.pointer (some ⟨p, 0, none⟩)] w fun e w' => e = .returned (.int .i64 (mlive M).length) ∧ Nw w w' := by
  obtain ⟨Z, h1, h2, _⟩ := h
  exact mlen_any _ p mb attrs M w h2 hs hW hM
theorem QP.cellL {w0 w : World} {p mb q : Nat} {attrs : Int} {M : List Kn} {L : List Rec} {ids lst : List Int} (h : QP w0 w p mb q attrs M L ids lst) : ∃ a c, w.cell? ⟨q, 1, none⟩ = some (.slice a L.length c) := by
  obtain ⟨Z, ⟨la, lc, _, _, _, _, h1, _⟩, _⟩ := h
  exact ⟨la, lc, by simp [World.cell?, h1]⟩
theorem QP.mfind {w0 w : World} {p mb q : Nat} {attrs : Int} {M : List Kn} {L : List Rec} {ids lst : List Int} (h : QP w0 w p mb q attrs M L ids lst) (hs : KSrt M) (hW : WfM M) (hM : M.length ≤ 1000000000) {vb : Value} {b : List Rng} (hb : Rngs (Old w0) w vb b) (wb : WfB b) (hbl : b.length ≤ 1000000000000) :
    Calls Try.prog 25 #[.pointer (some ⟨p, 0, none⟩), vb] w (FindD w (mfindB attrs M b)) := by
  obtain ⟨Z, h1, h2, h3, h4, h5, h6⟩ := h
  have hZ : ∀ b, Z b → w0.heap.size ≤ b ∧ b < w.heap.size := by obtain ⟨_, _, _, _, _, _, _, _, _, _, _, _, _, h⟩ := h1; exact h
  refine (mfind_any _ p mb attrs M vb b w h2 (hb.mono (fun b _ e => by rcases e with e | e; rw [e]; exact h4; exact (hZ b e).1)) hs hW wb hM hbl).mono fun e w' ⟨v, he, hn, hr⟩ => ?_
  obtain ⟨a, c, rfl, _, _⟩ := hr (fun _ => False) (fun _ _ h => h)
  exact ⟨a, c, he, hn, hr⟩
theorem QP.rfindC {w0 w : World} {p mb q : Nat} {attrs : Int} {M : List Kn} {L : List Rec} {ids lst : List Int} (h : QP w0 w p mb q attrs M L ids lst) (hn : L.length ≤ 1000000000) (hW : WfL L) {vb : Value} {b : List Rng} (hb : Rngs (Old w0) w vb b) (wb : WfB b) (hbl : b.length ≤ 1000000000000) :
    Calls Try.prog 34 #[.pointer (some ⟨q, 0, none⟩), vb] w (FindD w (rfindB attrs L b)) := by
  obtain ⟨Z, h1, h2, h3, h4, h5, h6⟩ := h
  have hZ : ∀ b, Z b → w0.heap.size ≤ b ∧ b < w.heap.size := by obtain ⟨_, _, _, _, _, _, _, _, _, _, _, _, _, h⟩ := h1; exact h
  refine (refFind_any _ Z q attrs L ids lst vb b w h1 (hb.mono (fun b _ e => (hZ b e).1)) hn hW wb hbl).mono fun e w' ⟨v, he, hn, hr⟩ => ?_
  obtain ⟨a, c, rfl, _, _⟩ := hr (fun _ => False) (fun _ _ h => h)
  exact ⟨a, c, he, hn, hr⟩
theorem QP.start {w0 w : World} {p mb q : Nat} {attrs : Int} (hn : Nw w0 w) (hr : MRep (fun b => True) w p mb attrs []) (hp : w0.heap.size ≤ p) (hm : w0.heap.size ≤ mb) (hq : w.heap[q]? = some (.cells #[.int .i64 attrs, .slice none 0 0, .slice none 0 0, .slice none 0 0] 64 (0, 0))) (h0 : w0.heap.size ≤ q) (hqp : q ≠ p) (hqm : q ≠ mb) :
    QP w0 w p mb q attrs [] [] [] [] :=
  ⟨fun b => b = q, ⟨none, 0, none, 0, none, 0, hq, ⟨none, 0, rfl, Nat.le_refl _, fun h => absurd h (by simp)⟩, World.ownsRow_nil _ _ _ _, World.ownsRow_nil _ _ _ _, rfl, (fun b h => by cases h), (fun b h => by cases h), fun b e => by rw [e]; exact ⟨h0, (Array.getElem?_eq_some_iff.1 hq).1⟩⟩,
    hr.mono (fun _ _ _ => trivial), hn, hm, fun e => hqp e.symm, fun e => hqm e.symm⟩

set_option maxRecDepth 100000 in
set_option maxHeartbeats 8000000 in
theorem modelPlays_any (attrs id : Int) (vl vb : Value) (l : List Op24) (bx0 : List Rng) (w : World) (hl : Ops24 (Old w) w vl l) (hb : Rngs (Old w) w vb bx0) (hll : l.length ≤ 9223372036854775807) (hbl : bx0.length ≤ 9223372036854775807) (wl : ∀ j, j < l.length → WfIn (ox l j).r) (wb : WfB bx0) (wid : W64 id) :
    Calls Try.prog 9 #[.int .i64 attrs, vl, vb, .int .u64 id] w fun e w' => e = .returned (.bool true) ∧ Nw w w' := by
  have hm := mixed
  have HBX := hid hb
  obtain ⟨la, lc, rfl, hlc, hlcell⟩ := hl
  obtain ⟨ba, bc, rfl, hbc, _⟩ := hb
  have HL := hid hlcell
  have HW := hid wl
  clear hlcell wl
  by_cases hb20 : bx0.length ≤ 20
  · go_enter Try.func9, Try.ntmps9
    go_wp2_with fail
    refine (mnew_any attrs w).mono ?_
    rintro e W ⟨p, mb, rfl, hnw, hp, hmb, hG⟩
    have HN := hid hnw
    have HG := hid hG
    have hlt := hG.lt
    have hsz := hnw.size
    clear hnw hG
    go_wp2_with fail
    generalize hV : W.alloc (.cells #[.int .i64 attrs, .slice none 0 0, .slice none 0 0, .slice none 0 0] 64) = V
    have hqV : V.heap[W.heap.size]? = some (.cells #[.int .i64 attrs, .slice none 0 0, .slice none 0 0, .slice none 0 0] 64 (0, 0)) := by rw [← hV]; exact heap_alloc_new _ _
    have gV : Gr W V := by rw [← hV]; exact Gr.alloc _ _
    have hQ0 := QP.start (w0 := w) (HN.out.trans gV.nw) (HG.out.nw gV.nw) hp hmb hqV hsz (by omega) (by omega)
    have HQ0 := hid hQ0
    clear hV hqV gV hQ0 HG HN
    generalize W.heap.size = q at *
    refine (awake24_any _).mono ?_
    rintro e V1 ⟨rfl, hn1⟩
    have HQ1 := hid (HQ0.out.nws hn1)
    clear hn1 HQ0 hlt hsz
    go_wp2_with fail
    go_loopw [11] (fun i wr => ∃ (k : Nat) (M : List Kn) (L : List Rec) (ids lst : List Int), k ≤ l.length ∧ k ≤ 60 ∧ i = .int .i64 k ∧ Hid (PL M L ids lst k) ∧ Hid (QP w wr p mb q attrs M L ids lst)) (fun i _ => 60 - (intOf i).toNat)
    case atStart => exact ⟨0, [], [], [], [], by omega, by omega, by simp, hid PL.start, HQ1⟩
    case round =>
      clear HQ1
      obtain ⟨k, M, L, ids, lst, hk, hk60, rfl, HP, HQ⟩ := hrel
      by_cases hlt : k < l.length ∧ k < 60
      · obtain ⟨hlt, hlt60⟩ := hlt
        obtain ⟨b, o, rfl, hx, hcell⟩ := HL.out (by omega)
        obtain ⟨s, c0, c1, c2, c3, hs⟩ := hcell k hlt
        have hwr := HW.out k hlt
        have c0 := HQ.out.nw.cell c0 (fun h => h)
        have c1 := HQ.out.nw.cell c1 (fun h => h)
        have c2 := HQ.out.nw.cell c2 (fun h => h)
        have c3 := HQ.out.nw.cell c3 (fun h => h)
        have hs' := hs.kp (Nw.to HQ.out.nw)
        obtain ⟨sa, sc, rfl, hsl, _⟩ := hs
        have HS := hid hs'
        generalize ox l k = x at *
        obtain ⟨er, r⟩ := x
        dsimp only at *
        have HWR := hid hwr
        clear hcell hs' hwr
        by_cases hv20 : 20 < r.vals.length
        · go_wp2
          go_ret
          exact ⟨rfl, HQ.out.nw⟩
        · cases er with
          | true =>
            obtain ⟨L0, hL0⟩ : ∃ L0, L0 = L := ⟨_, rfl⟩
            have hP2 := HP.out.del r.id r.ver HWR.out.1 HWR.out.2.1
            have hB := HP.out.delB r.id r.ver
            have hmd : ∀ W' L ids lst, QP w W' p mb q attrs M L ids lst → Calls Try.prog 29 #[.pointer (some ⟨p, 0, none⟩), .int .u64 r.id, .int .u64 r.ver] W' (QD (.bool (rdelOk L0 r.id r.ver)) w W' p mb q attrs (mdelM M r.id r.ver) L ids lst) := fun W' L ids lst h => by
              rw [hL0, ← hB]
              exact h.mdel HWR.out.1 HWR.out.2.1 (Nat.le_trans HP.out.len (by omega))
            have hrd : ∀ W' M, QP w W' p mb q attrs M L ids lst → Calls Try.prog 30 #[.pointer (some ⟨q, 0, none⟩), .int .u64 r.id, .int .u64 r.ver] W' (QD (.bool (rdelOk L0 r.id r.ver)) w W' p mb q attrs M (if rdelOk L r.id r.ver then dropL r.id L else L) (if rdelOk L r.id r.ver then pnoteI r.id ids else ids) (if rdelOk L r.id r.ver then pnoteL r.id r.ver ids lst else lst)) := fun W' M h => by
              rw [hL0]
              exact h.rdel (Nat.le_trans HP.out.lenL (by omega)) HP.out.wfL HP.out.ll (Nat.le_trans HP.out.il (by omega))
            clear hB hL0
            generalize rdelOk L0 r.id r.ver = ok at *
            generalize (if rdelOk L r.id r.ver then dropL r.id L else L) = L2 at *
            generalize (if rdelOk L r.id r.ver then pnoteI r.id ids else ids) = ids2 at *
            generalize (if rdelOk L r.id r.ver then pnoteL r.id r.ver ids lst else lst) = lst2 at *
            generalize mdelM M r.id r.ver = M2 at *
            have HP2 := hid hP2
            have HMD := hid hmd
            have HRD := hid hrd
            clear hP2 hmd hrd
            have HQD := hid (HQ.out.nws (Gr.drew wr).nw)
            have d1 := (Gr.drew wr).cell c1
            have d2 := (Gr.drew wr).cell c2
            have HX := hid hx
            clear hx
            go_wp2_with fail
            go_region_held3 (fun w' => w'.cell? ⟨b, o + k * 4 + 1, none⟩ = some (.int .u64 r.id) ∧ w'.cell? ⟨b, o + k * 4 + 2, none⟩ = some (.int .u64 r.ver))
              (first
                | go_keep
                | exact ⟨kA1, kA2⟩
                | exact ⟨kB1, kB2⟩)
              (first
                | (go_at_call 29; refine (HMD.out _ _ _ _ (by first | exact HQD.out | exact HQr.out)).mono ?_; rintro e W5 ⟨rfl, hq5, hk5⟩; have HQm := hid hq5; have kA1 := hk5.cell (by first | exact d1 | exact kB1) HX.out; have kA2 := hk5.cell (by first | exact d2 | exact kB2) HX.out; clear hq5 hk5)
                | (go_at_call 30; refine (HRD.out _ _ (by first | exact HQD.out | exact HQm.out)).mono ?_; rintro e W5 ⟨rfl, hq5, hk5⟩; have HQr := hid hq5; have kB1 := hk5.cell (by first | exact d1 | exact kA1) HX.out; have kB2 := hk5.cell (by first | exact d2 | exact kA2) HX.out; clear hq5 hk5))
            all_goals
              have HQ2 : Hid (QP w W5 p mb q attrs M2 L2 ids2 lst2) := by first | exact HQr | exact HQm
              (try clear kA1)
              (try clear kA2)
              (try clear kA3)
              (try clear kB1)
              (try clear kB2)
              (try clear kB3)
              obtain ⟨qa, qc, hq1⟩ := HQ2.out.cellL
              have hq1D := (Gr.drew W5).cell hq1
              have hlen := (HQ2.out.nws (Gr.drew W5).nw).mlenC HP2.out.srt HP2.out.wf (Nat.le_trans HP2.out.len (by omega))
              rw [HP2.out.liveL] at hlen
              have HL2 := hid HP2.out.lenL
              generalize hln : L2.length = ln at *
              have hln1 : ln ≤ 61 := by have := HL2.out; omega
              clear hln HL2
              go_wp2_with fail
              go_region_held3 (fun w' => w'.cell? ⟨q, 1, none⟩ = some (.slice qa ln qc))
                (first
                  | go_keep
                  | exact kC)
                (first
                  | (go_at_call 32; refine hlen.mono ?_; rintro e W7 ⟨rfl, hn7⟩; have HQ7 := hid (HQ2.out.nws ((Gr.drew W5).nw.trans hn7)); have kC := hn7.cell hq1D (fun h => h); clear hn7))
              go_wp2
              go_roundw
              case rel => exact ⟨k + 1, M2, L2, ids2, lst2, by omega, by omega, by go_num, HP2, HQ7⟩
              case measure => simp [intOf]; omega
          | false =>
            obtain ⟨ids0, hids0⟩ : ∃ x, x = ids := ⟨_, rfl⟩
            obtain ⟨lst0, hlst0⟩ : ∃ x, x = lst := ⟨_, rfl⟩
            have hP2 := HP.out.put attrs r HWR.out
            have hB := HP.out.putB attrs r
            have hrv : RecV (Old w) wr (.agg #[.int .u64 r.id, .int .u64 r.ver, .slice sa r.vals.length sc]) r := ⟨_, rfl, HS.out⟩
            have HRV := hid hrv
            have hmd : ∀ W' L ids lst, Kp (Old w) wr W' → QP w W' p mb q attrs M L ids lst → Calls Try.prog 24 #[.pointer (some ⟨p, 0, none⟩), .agg #[.int .u64 r.id, .int .u64 r.ver, .slice sa r.vals.length sc]] W' (QD (.bool (rputOk attrs ids0 lst0 r)) w W' p mb q attrs (mputM attrs M r) L ids lst) := fun W' L ids lst hk h => by
              rw [hids0, hlst0, ← hB]
              exact h.mput (HRV.out.kp hk) HWR.out (by omega) (Nat.le_trans HP.out.len (by omega))
            have hrd : ∀ W' M, Kp (Old w) wr W' → QP w W' p mb q attrs M L ids lst → Calls Try.prog 31 #[.pointer (some ⟨q, 0, none⟩), .agg #[.int .u64 r.id, .int .u64 r.ver, .slice sa r.vals.length sc]] W' (QD (.bool (rputOk attrs ids0 lst0 r)) w W' p mb q attrs M (if rputOk attrs ids lst r then rput r (dropL r.id L) else L) (if rputOk attrs ids lst r then pnoteI r.id ids else ids) (if rputOk attrs ids lst r then pnoteL r.id r.ver ids lst else lst)) := fun W' M hk h => by
              rw [hids0, hlst0]
              exact h.rput (HRV.out.kp hk) HWR.out (by omega) (Nat.le_trans HP.out.lenL (by omega)) HP.out.srtL HP.out.ll (Nat.le_trans HP.out.il (by omega))
            clear hB hids0 hlst0 hrv
            generalize rputOk attrs ids0 lst0 r = ok at *
            generalize (if rputOk attrs ids lst r then rput r (dropL r.id L) else L) = L2 at *
            generalize (if rputOk attrs ids lst r then pnoteI r.id ids else ids) = ids2 at *
            generalize (if rputOk attrs ids lst r then pnoteL r.id r.ver ids lst else lst) = lst2 at *
            generalize mputM attrs M r = M2 at *
            have HP2 := hid hP2
            have HMD := hid hmd
            have HRD := hid hrd
            clear hP2 hmd hrd
            have HQD := hid (HQ.out.nws (Gr.drew wr).nw)
            have d1 := (Gr.drew wr).cell c1
            have d2 := (Gr.drew wr).cell c2
            have d3 := (Gr.drew wr).cell c3
            have hkD := (Gr.drew wr).kp (Old w)
            have HKD := hid hkD
            have HX := hid hx
            clear hx hkD
            go_wp2_with fail
            go_region_held3 (fun w' => w'.cell? ⟨b, o + k * 4 + 1, none⟩ = some (.int .u64 r.id) ∧ w'.cell? ⟨b, o + k * 4 + 2, none⟩ = some (.int .u64 r.ver) ∧ w'.cell? ⟨b, o + k * 4 + 3, none⟩ = some (.slice sa r.vals.length sc))
              (first
                | go_keep
                | exact ⟨kA1, kA2, kA3⟩
                | exact ⟨kB1, kB2, kB3⟩)
              (first
                | (go_at_call 24; refine (HMD.out _ _ _ _ (by first | exact HKD.out | exact HKr.out) (by first | exact HQD.out | exact HQr.out)).mono ?_; rintro e W5 ⟨rfl, hq5, hk5⟩; have HQm := hid hq5; have HKm : Hid (Kp (Old w) wr W5) := (by first | exact hid (HKD.out.trans hk5) | exact hid (HKr.out.trans hk5)); have kA1 := hk5.cell (by first | exact d1 | exact kB1) HX.out; have kA2 := hk5.cell (by first | exact d2 | exact kB2) HX.out; have kA3 := hk5.cell (by first | exact d3 | exact kB3) HX.out; clear hq5 hk5)
                | (go_at_call 31; refine (HRD.out _ _ (by first | exact HKD.out | exact HKm.out) (by first | exact HQD.out | exact HQm.out)).mono ?_; rintro e W5 ⟨rfl, hq5, hk5⟩; have HQr := hid hq5; have HKr : Hid (Kp (Old w) wr W5) := (by first | exact hid (HKD.out.trans hk5) | exact hid (HKm.out.trans hk5)); have kB1 := hk5.cell (by first | exact d1 | exact kA1) HX.out; have kB2 := hk5.cell (by first | exact d2 | exact kA2) HX.out; have kB3 := hk5.cell (by first | exact d3 | exact kA3) HX.out; clear hq5 hk5))
            all_goals
              have HQ2 : Hid (QP w W5 p mb q attrs M2 L2 ids2 lst2) := by first | exact HQr | exact HQm
              (try clear kA1)
              (try clear kA2)
              (try clear kA3)
              (try clear kB1)
              (try clear kB2)
              (try clear kB3)
              obtain ⟨qa, qc, hq1⟩ := HQ2.out.cellL
              have hq1D := (Gr.drew W5).cell hq1
              have hlen := (HQ2.out.nws (Gr.drew W5).nw).mlenC HP2.out.srt HP2.out.wf (Nat.le_trans HP2.out.len (by omega))
              rw [HP2.out.liveL] at hlen
              have HL2 := hid HP2.out.lenL
              generalize hln : L2.length = ln at *
              have hln1 : ln ≤ 61 := by have := HL2.out; omega
              clear hln HL2
              go_wp2_with fail
              go_region_held3 (fun w' => w'.cell? ⟨q, 1, none⟩ = some (.slice qa ln qc))
                (first
                  | go_keep
                  | exact kC)
                (first
                  | (go_at_call 32; refine hlen.mono ?_; rintro e W7 ⟨rfl, hn7⟩; have HQ7 := hid (HQ2.out.nws ((Gr.drew W5).nw.trans hn7)); have kC := hn7.cell hq1D (fun h => h); clear hn7))
              go_wp2
              go_roundw
              case rel => exact ⟨k + 1, M2, L2, ids2, lst2, by omega, by omega, by go_num, HP2, HQ7⟩
              case measure => simp [intOf]; omega
      · have hex : ¬ k < l.length ∨ (k < l.length ∧ ¬ k < 60) := by omega
        clear hlt HL HW
        obtain ⟨f1, f2⟩ := HP.out.find id
        have f3 := HP.out.findL attrs bx0
        have hmg := fun W' (h : QP w W' p mb q attrs M L ids lst) => h.mget (id := id) wid HP.out.wf
        have hrg := fun W' (h : QP w W' p mb q attrs M L ids lst) => h.rget (id := id) (Nat.le_trans HP.out.lenL (by omega)) HP.out.wfL
        have hmf := fun W' (h : QP w W' p mb q attrs M L ids lst) v (hb : Rngs (Old w) W' v bx0) => h.mfind HP.out.srt HP.out.wf (Nat.le_trans HP.out.len (by omega)) hb wb (by omega)
        have hrf := fun W' (h : QP w W' p mb q attrs M L ids lst) v (hb : Rngs (Old w) W' v bx0) => h.rfindC (Nat.le_trans HP.out.lenL (by omega)) HP.out.wfL hb wb (by omega)
        rw [f3] at hmf
        simp only [f1, f2] at hrg
        have hwk := wf_kdef HP.out.wf wid
        have hHw : WfL (rfindB attrs L bx0) := by
          unfold rfindB
          split
          · exact (wfL_iff _).2 (fun r hr => (wfL_iff _).1 HP.out.wfL r (List.mem_filter.1 hr).1)
          · exact fun j hj => absurd hj (by simp)
        have hHl : (rfindB attrs L bx0).length ≤ 60 := by
          unfold rfindB
          split
          · exact Nat.le_trans (List.length_filter_le _ _) (Nat.le_trans HP.out.lenL hk60)
          · simp
        generalize rfindB attrs L bx0 = H at *
        have hHv : ∀ j, j < H.length → (rx H j).vals.length ≤ 1000000000000000 := fun j hj => by have := (hHw j hj).2.2.2; omega
        generalize kdef id M = x at *
        obtain ⟨xi, xv, xb, xr⟩ := x
        obtain ⟨_, _, _, _, _, hxl⟩ := hwk
        dsimp only at *
        have HMG := hid hmg
        have HRG := hid hrg
        have HMF := hid hmf
        have HRF := hid hrf
        have HHV := hid hHv
        have HB1 : Hid (∀ W', Nw w W' → Rngs (Old w) W' (.slice ba bx0.length bc) bx0) := hid (fun W' h => HBX.out.kp (Nw.to h))
        clear f1 f2 f3 hmg hrg hmf hrf hHw hHv HP HBX
        rcases hex with hx1 | ⟨hx1, hx2⟩
        all_goals
          go_wp2_with fail
          refine (HMG.out _ HQ.out).mono ?_
          rintro e W5 ⟨s5, rfl, hn5, hs5⟩
          have hr5 := hs5 (fun _ => False) (fun _ _ h => h)
          have HR5 := hid hr5
          obtain ⟨a5, c5, rfl, _, _⟩ := hr5
          have HN5 := hid hn5
          clear hn5 hs5
          go_wp2_with fail
          generalize hV6 : W5.alloc (.cells #[.int .u64 xr.id, .int .u64 xr.ver, .slice a5 xr.vals.length c5] 30) = V6
          have gV6 : Gr W5 V6 := by rw [← hV6]; exact Gr.alloc _ _
          have x0 : V6.cell? ⟨W5.heap.size, 0, none⟩ = some (.int .u64 xr.id) := by rw [← hV6]; simp
          have x1 : V6.cell? ⟨W5.heap.size, 1, none⟩ = some (.int .u64 xr.ver) := by rw [← hV6]; simp
          have x2 : V6.cell? ⟨W5.heap.size, 2, none⟩ = some (.slice a5 xr.vals.length c5) := by rw [← hV6]; simp
          have HQ6 := hid ((HQ.out.nws HN5.out).nws gV6.nw)
          have HG6 := hid gV6
          clear hV6 gV6
          refine (HRG.out _ HQ6.out).mono ?_
          rintro e W7 ⟨s7, rfl, hn7, hs7⟩
          have hr7 := hs7 (fun _ => False) (fun _ _ h => h)
          have HR7 := hid hr7
          obtain ⟨a7, c7, rfl, _, _⟩ := hr7
          have x0 := hn7.cell x0 (fun h => h)
          have x1 := hn7.cell x1 (fun h => h)
          have x2 := hn7.cell x2 (fun h => h)
          have HN7 := hid hn7
          clear hn7 hs7
          go_wp2_with fail
          generalize hV8 : W7.alloc (.cells #[.int .u64 xr.id, .int .u64 xr.ver, .slice a7 xr.vals.length c7] 30) = V8
          have gV8 : Gr W7 V8 := by rw [← hV8]; exact Gr.alloc _ _
          have y0 : V8.cell? ⟨W7.heap.size, 0, none⟩ = some (.int .u64 xr.id) := by rw [← hV8]; simp
          have y1 : V8.cell? ⟨W7.heap.size, 1, none⟩ = some (.int .u64 xr.ver) := by rw [← hV8]; simp
          have y2 : V8.cell? ⟨W7.heap.size, 2, none⟩ = some (.slice a7 xr.vals.length c7) := by rw [← hV8]; simp
          have x0 := gV8.cell x0
          have x1 := gV8.cell x1
          have x2 := gV8.cell x2
          have HQ8 := hid ((HQ6.out.nws HN7.out).nws gV8.nw)
          have HRA : Hid (RecV (fun _ => False) V8 (.agg #[.int .u64 xr.id, .int .u64 xr.ver, .slice a5 xr.vals.length c5]) xr) := hid ⟨_, rfl, (HR5.out.kp (Nw.to ((HG6.out.nw.trans HN7.out).trans gV8.nw)))⟩
          have HRB : Hid (RecV (fun _ => False) V8 (.agg #[.int .u64 xr.id, .int .u64 xr.ver, .slice a7 xr.vals.length c7]) xr) := hid ⟨_, rfl, HR7.out.gr gV8⟩
          have HK6 : Hid (∀ W', Nw V8 W' → (W'.cell? ⟨W5.heap.size, 0, none⟩ = some (.int .u64 xr.id) ∧ W'.cell? ⟨W5.heap.size, 1, none⟩ = some (.int .u64 xr.ver) ∧ W'.cell? ⟨W5.heap.size, 2, none⟩ = some (.slice a5 xr.vals.length c5) ∧ W'.cell? ⟨W7.heap.size, 0, none⟩ = some (.int .u64 xr.id) ∧ W'.cell? ⟨W7.heap.size, 1, none⟩ = some (.int .u64 xr.ver) ∧ W'.cell? ⟨W7.heap.size, 2, none⟩ = some (.slice a7 xr.vals.length c7))) := hid (fun W' h => ⟨h.cell x0 (fun h => h), h.cell x1 (fun h => h), h.cell x2 (fun h => h), h.cell y0 (fun h => h), h.cell y1 (fun h => h), h.cell y2 (fun h => h)⟩)
          clear hV8 gV8 x0 x1 x2 y0 y1 y2 HR5 HR7 HQ6 HN7 HG6 HN5
          refine (HMF.out _ HQ8.out _ (HB1.out _ HQ8.out.nw)).mono ?_
          rintro e Wa ⟨aa, ca, rfl, hna, hfa⟩
          have HFa := hid (hfa (fun _ => False) (fun _ _ h => h))
          have HNa := hid hna
          clear hna hfa
          go_wp2_with fail
          refine (HRF.out _ (HQ8.out.nws HNa.out) _ (HB1.out _ (HQ8.out.nw.trans HNa.out))).mono ?_
          rintro e Wb ⟨ab, cb, rfl, hnb, hfb⟩
          have HFb := hid (hfb (fun _ => False) (fun _ _ h => h))
          have HFa2 := hid (HFa.out.kp (Nw.to hnb))
          have HNb := hid (HNa.out.trans hnb)
          clear hnb hfb
          go_wp2_with fail
          refine (records_true (fun _ => False) (fun _ => False) _ _ H _ HFa2.out HFb.out (by omega) HHV.out).mono ?_
          rintro e Wr ⟨rfl, hgr⟩
          have HNr := hid (HNb.out.trans hgr.nw)
          obtain ⟨x0, x1, x2, y0, y1, y2⟩ := HK6.out _ HNr.out
          clear hgr
          go_wp2_with fail
          refine (record_true (fun _ => False) (fun _ => False) _ _ xr _ (HRA.out.kp (Nw.to HNr.out)) (HRB.out.kp (Nw.to HNr.out)) (by omega)).mono ?_
          rintro e Wc ⟨rfl, hgc⟩
          have HNc := hid (HNr.out.trans hgc.nw)
          clear hgc x0 x1 x2 y0 y1 y2
          go_wp2
          go_ret
          exact ⟨rfl, HQ8.out.nw.trans HNc.out⟩
  · clear HL HW
    go_enter Try.func9, Try.ntmps9
    go_wp2_with fail
    refine (mnew_any attrs w).mono ?_
    rintro e W ⟨p, mb, rfl, hnw, hp, hmb, hG⟩
    have HN := hid hnw
    clear hnw hG
    go_wp2_with fail
    refine (awake24_any _).mono ?_
    rintro e V1 ⟨rfl, hn1⟩
    have HN1 := hid ((HN.out.trans (Gr.alloc W _).nw).trans hn1)
    clear hn1
    go_wp2_with fail
    refine (awake24_any _).mono ?_
    rintro e V2 ⟨rfl, hn2⟩
    have HN2 := hid (HN1.out.trans hn2)
    clear hn2
    go_wp2
    go_ret
    exact ⟨rfl, HN2.out⟩

end Go.Proofs.Ytkehhopdppampaa
