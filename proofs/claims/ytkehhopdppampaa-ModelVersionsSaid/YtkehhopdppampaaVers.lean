/-
  Vers: petasoslaw24.ModelVersions, walked: it answers true and turns nothing that was there.
-/
import Derived.Test.YtkehhopdppampaaModelLaw
import Derived.Test.YtkehhopdppampaaOpens
namespace Go.Proofs.Ytkehhopdppampaa
set_option linter.unusedVariables false
set_option linter.unusedSimpArgs false
open Go.RowKit Go.Sort Go.Maps

/-- A slice of truth values. -/
def Bools (X : Nat → Prop) (w : World) (v : Value) (l : List Bool) : Prop :=
  ∃ a cap, v = .slice a l.length cap ∧ l.length ≤ cap ∧ (0 < l.length → ∃ b o, a = some ⟨b, o, none⟩ ∧ ¬ X b ∧ ∀ j, j < l.length → w.cell? ⟨b, o + j, none⟩ = some (.bool (l.getD j false)))
section
variable {H : Type} {enc : TypeId × Value → H} {W : World} {sp : Nat → Bool} {hd : Bool} {fuel : Nat}
theorem bool_cell {t : TypeId} {l : List Value} {y : DataW H × List MemPlace} (ht : Try.prog.underlying t = some .bool) (h : DataW.trod enc Try.prog W 0 sp hd fuel t l = some y) : ∃ b, l = [.bool b] := by
  match l, h with
  | [c], h =>
    cases fuel with
    | zero => simp [DataW.trod] at h
    | succ fuel =>
      cases c <;> simp [DataW.trod, ht] at h
      exact ⟨_, rfl⟩
  | [], h => cases fuel <;> simp [DataW.trod, ht] at h
  | _ :: _ :: _, h => cases fuel <;> simp [DataW.trod, ht] at h
theorem cellsBool : Try.prog.cellsOf 4 = 1 := by kernel_rfl
theorem opened_bools {cs : List Value} {x : DataW H × List MemPlace} (h : DataW.trod enc Try.prog W 0 (fun _ => true) hd fuel 72 cs = some x) : ∃ v l, cs = [v] ∧ Bools (Old W) W v l ∧ l.length ≤ 9223372036854775807 ∧ True := by
  obtain ⟨a, len, cap, rfl, hl, hm, hx⟩ := slice_cells Try.underlying72 cellsBool (by omega) h
  by_cases hp : 0 < len
  · obtain ⟨b, o, rfl, hb, hx⟩ := hx hp
    have hf : ∀ j, j < len → ∃ z : Bool, W.cell? ⟨b, o + j, none⟩ = some (.bool z) ∧ True := fun j hj => by
      obtain ⟨cs', n, y, h1, h2, h3⟩ := hx j hj
      obtain ⟨z, rfl⟩ := bool_cell Try.underlying4 h3
      exact ⟨z, by simpa using h2 0 (by omega), trivial⟩
    obtain ⟨f, hf⟩ := Deep.choose_lt hf
    have hlen : ((List.range len).map f).length = len := by simp
    have hg : ∀ j, j < len → ((List.range len).map f).getD j false = f j := fun j hj => by simp [hj]
    refine ⟨_, (List.range len).map f, rfl, ⟨some ⟨b, o, none⟩, cap, by rw [hlen], by omega, fun _ => ⟨b, o, rfl, hb, fun j hj => ?_⟩⟩, by omega, trivial⟩
    rw [hg j (by omega)]; exact (hf j (by omega)).1
  · obtain rfl : len = 0 := by omega
    exact ⟨_, [], rfl, ⟨a, cap, rfl, by simp, fun h => absurd h (by simp)⟩, by simp, trivial⟩
end
/-- What is known where all is about one id. -/
def VInv (id last : Int) (there : Bool) (M : List Kn) : Prop :=
  (M = [] ∧ last = 0 ∧ there = false) ∨ (∃ r, M = [⟨id, last, there, r⟩] ∧ (there = true → r = ⟨id, last, [last]⟩))
theorem VInv.def {id last : Int} {there : Bool} {M : List Kn} (h : VInv id last there M) : (kdef id M).ver = last ∧ (kdef id M).is = there ∧ (there = true → (kdef id M).r.ver = last) ∧ (mlive M).length ≤ 1 := by
  rcases h with ⟨rfl, rfl, rfl⟩ | ⟨r, rfl, hr⟩
  · exact ⟨rfl, rfl, fun h => (by cases h), by simp [mlive]⟩
  · refine ⟨by simp [kdef, kfind], by simp [kdef, kfind], fun h => ?_, Nat.le_trans (List.length_filter_le _ _) (by simp)⟩
    simp [kdef, kfind, hr h]
theorem VInv.one {id last : Int} {there : Bool} {M : List Kn} (h : VInv id last there M) (x : Kn) (hx : x.id = id) : kput x M = [x] := by
  rcases h with ⟨rfl, rfl, rfl⟩ | ⟨r, rfl, hr⟩
  · rfl
  · unfold kput
    simp [hx, kins]
theorem vers_right {id v : Int} (h0 : 0 ≤ id) (h1 : id < 68719476736) (hv : 1 ≤ v) : rightB 1 ⟨id, v, [v]⟩ = true := rightB_yes.2 ⟨by omega, by omega, by simp, by show id / 4294967296 < 16; omega, hv⟩
theorem VInv.put {id last v : Int} {there : Bool} {M : List Kn} (h : VInv id last there M) (h0 : 0 ≤ id) (h1 : id < 68719476736) (hv : 1 ≤ v) :
    mputB 1 M ⟨id, v, [v]⟩ = decide (last < v) ∧ (last < v → VInv id v true (mputM 1 M ⟨id, v, [v]⟩)) ∧ (¬ last < v → VInv id last there (mputM 1 M ⟨id, v, [v]⟩)) := by
  have hb : mputB 1 M ⟨id, v, [v]⟩ = decide (last < v) := by
    unfold mputB
    rw [vers_right h0 h1 hv]
    show (true && decide ((kdef id M).ver < v)) = _
    rw [h.def.1]
    rfl
  refine ⟨hb, fun hlt => ?_, fun hlt => ?_⟩
  · unfold mputM
    rw [hb, if_pos (by simpa using hlt), h.one _ rfl]
    exact Or.inr ⟨_, rfl, fun _ => rfl⟩
  · unfold mputM
    rw [hb, if_neg (by simpa using hlt)]
    exact h
theorem VInv.del {id last v : Int} {there : Bool} {M : List Kn} (h : VInv id last there M) :
    mdelB M id v = (there && decide (last < v)) ∧ ((there && decide (last < v)) = true → VInv id v false (mdelM M id v)) ∧ ((there && decide (last < v)) = false → VInv id last there (mdelM M id v)) := by
  have hb : mdelB M id v = (there && decide (last < v)) := by
    unfold mdelB
    rw [h.def.1, h.def.2.1]
  refine ⟨hb, fun hlt => ?_, fun hlt => ?_⟩
  · unfold mdelM
    rw [hb, if_pos hlt, h.one _ rfl]
    exact Or.inr ⟨_, rfl, fun h => (by cases h)⟩
  · unfold mdelM
    rw [hb, if_neg (by rw [hlt]; simp)]
    exact h

theorem vers_wf {id v : Int} (h0 : 0 ≤ id) (h1 : id < 68719476736) (hv : 1 ≤ v) (hv2 : v ≤ 30) : WfIn ⟨id, v, [v]⟩ := ⟨⟨h0, by show id < 18446744073709551616; omega⟩, ⟨by show 0 ≤ v; omega, by show v < 18446744073709551616; omega⟩, fun j hj => by
  obtain rfl : j = 0 := by simpa using hj
  show W32 v
  exact ⟨by omega, by omega⟩⟩

set_option maxRecDepth 100000 in
set_option maxHeartbeats 8000000 in
theorem modelVersions_any (id : Int) (vv ve : Value) (vs : List Int) (es : List Bool) (w : World) (hv : Nums (Old w) .u64 w vv vs) (he : Bools (Old w) w ve es) (wid : W64 id) (wvs : ∀ j, j < vs.length → W64 (gx vs j)) (hvl : vs.length ≤ 9223372036854775807) (hel : es.length ≤ 9223372036854775807) :
    Calls Try.prog 11 #[.int .u64 id, vv, ve] w fun e w' => e = .returned (.bool true) ∧ Nw w w' := by
  have hm := mixed
  obtain ⟨va, vc, rfl, hvc, hvcell⟩ := hv
  obtain ⟨ea, ec, rfl, hec, hecell⟩ := he
  have hi0 : 0 ≤ id % 68719476736 := by omega
  have hi1 : id % 68719476736 < 68719476736 := by omega
  have HV := hid hvcell
  have HE := hid hecell
  have HWV := hid wvs
  obtain ⟨w0, w1⟩ := wid
  clear hvcell hecell wvs
  go_enter Try.func11, Try.ntmps11
  go_wp2_with fail
  refine (mnew_any 1 w).mono ?_
  rintro e W ⟨p, mb, rfl, hnw, hp, hmb, hG⟩
  have H0 := hid (MW.start hnw hG hmb 0)
  clear hnw hG
  go_wp2_with (go_at_call 23; refine (awake24_any _).mono ?_; rintro e W1 ⟨rfl, hn1⟩; have H1 := hid (H0.out.nws hn1); clear hn1)
  go_loopw [8, 9, 10] (fun lv tv i wr => ∃ (k : Nat) (M : List Kn) (last : Int) (there : Bool), k ≤ vs.length ∧ k ≤ 40 ∧ i = .int .i64 k ∧ lv = .int .u64 last ∧ tv = .bool there ∧ Hid (MW w wr p mb 1 M k) ∧ Hid (VInv (id % 68719476736) last there M)) (fun _ _ i _ => 40 - (intOf i).toNat)
  case atStart => exact ⟨0, [], 0, false, by omega, by omega, by simp, rfl, rfl, H1, hid (Or.inl ⟨rfl, rfl, rfl⟩)⟩
  case round =>
    obtain ⟨k, M, last, there, hk, hk40, rfl, rfl, rfl, HM, HI⟩ := hrel
    by_cases hlt : k < vs.length ∧ k < 40
    · obtain ⟨hlt, hlt40⟩ := hlt
      obtain ⟨b, o, rfl, hx, hcell⟩ := HV.out (by omega)
      have c0 := HM.out.nw.cell (hcell k hlt) (fun h => h)
      obtain ⟨hx0, hx1⟩ := HWV.out k hlt
      generalize gx vs k = x at *
      obtain ⟨v, hv⟩ : ∃ v, 1 + x % 30 = v := ⟨_, rfl⟩
      have hv1 : 1 ≤ v := by omega
      have hv30 : v ≤ 30 := by omega
      have HVV := hid hv
      have hput := HI.out.put (v := v) hi0 hi1 hv1
      have hdel := HI.out.del (v := v)
      have HPUT := hid hput
      have HDEL := hid hdel
      clear hcell hput hdel hv H1 H0 hx
      have hway : (k < es.length ∧ es.getD k false = true) ∨ (k < es.length ∧ es.getD k false = false) ∨ ¬ k < es.length := by
        by_cases h : k < es.length
        · cases e : es.getD k false
          · exact Or.inr (Or.inl ⟨h, rfl⟩)
          · exact Or.inl ⟨h, rfl⟩
        · exact Or.inr (Or.inr h)
      rcases hway with ⟨hel1, heb⟩ | ⟨hel1, heb⟩ | hel1
      · obtain ⟨eb, eo, rfl, hex, hecc⟩ := HE.out (by omega)
        have d0 := HM.out.nw.cell (hecc k hel1) (fun h => h)
        rw [heb] at d0
        clear hecc heb hex
        by_cases hlv : last < v
        · cases there with
          | false =>
            have hB : mdelB M (id % 68719476736) v = false := by rw [HDEL.out.1]; simp
            have HV2 := HDEL.out.2.2 (by rw [← HDEL.out.1]; exact hB)
            have hdl := HM.out.del (id := id % 68719476736) (v := v) ⟨hi0, by omega⟩ ⟨by omega, by omega⟩ (by omega)
            have VI2 := hid HV2
            have HB := hid hB
            clear HV2 HPUT HDEL hB
            generalize hM2 : mdelM M (id % 68719476736) v = M2 at *
            have HM2 := hid hM2
            clear hM2
            go_wp2_with fail
            rw [HVV.out]
            go_wp2_with fail
            refine hdl.mono ?_
            rintro e W2 ⟨rfl, hm2, _⟩
            rw [HB.out]
            rw [HM2.out] at hm2
            have H2 := hid hm2
            clear hm2 hdl
            have hgt := H2.out.get (id := id % 68719476736) ⟨hi0, by omega⟩
            have hd2 := VI2.out.def
            generalize kdef (id % 68719476736) M2 = xk at hgt hd2
            obtain ⟨xi, xv, xb, xr⟩ := xk
            obtain ⟨_, hd3, hd4, hd5⟩ := hd2
            dsimp only at hd3 hd4 hgt
            subst hd3
            have HD5 := hid hd5
            clear hd4 hd5
            go_wp2_with fail
            refine hgt.mono ?_
            rintro e W3 ⟨s3, rfl, hn3, hs3⟩
            obtain ⟨sa, sc, rfl, _, _⟩ := hs3 (fun _ => False) (fun _ _ h => h)
            have H3 := hid (H2.out.nws (hn3.trans (Gr.alloc W3 (.cells #[.int .u64 xr.id, .int .u64 xr.ver, .slice sa xr.vals.length sc] 30)).nw))
            have hln := H3.out.lenC (by omega)
            clear hn3 hs3 hgt
            generalize hml : (mlive M2).length = ml at *
            have hml1 : ml ≤ 1 := HD5.out
            clear HD5 hml
            go_wp2_with (go_at_call 32; refine hln.mono ?_; rintro e W4 ⟨rfl, hn4⟩; have HN4 := hid (H3.out.nws hn4); clear hn4)
            go_roundw
            case rel => exact ⟨k + 1, M2, last, false, by omega, by omega, by go_num, rfl, rfl, HN4, VI2⟩
            case measure => simp [intOf]; omega
          | true =>
            have hB : mdelB M (id % 68719476736) v = true := by rw [HDEL.out.1]; simp; omega
            have HV2 := HDEL.out.2.1 (by rw [← HDEL.out.1]; exact hB)
            have hdl := HM.out.del (id := id % 68719476736) (v := v) ⟨hi0, by omega⟩ ⟨by omega, by omega⟩ (by omega)
            have VI2 := hid HV2
            have HB := hid hB
            clear HV2 HPUT HDEL hB
            generalize hM2 : mdelM M (id % 68719476736) v = M2 at *
            have HM2 := hid hM2
            clear hM2
            go_wp2_with fail
            rw [HVV.out]
            go_wp2_with fail
            refine hdl.mono ?_
            rintro e W2 ⟨rfl, hm2, _⟩
            rw [HB.out]
            rw [HM2.out] at hm2
            have H2 := hid hm2
            clear hm2 hdl
            have hgt := H2.out.get (id := id % 68719476736) ⟨hi0, by omega⟩
            have hd2 := VI2.out.def
            generalize kdef (id % 68719476736) M2 = xk at hgt hd2
            obtain ⟨xi, xv, xb, xr⟩ := xk
            obtain ⟨_, hd3, hd4, hd5⟩ := hd2
            dsimp only at hd3 hd4 hgt
            subst hd3
            have HD5 := hid hd5
            clear hd4 hd5
            go_wp2_with fail
            refine hgt.mono ?_
            rintro e W3 ⟨s3, rfl, hn3, hs3⟩
            obtain ⟨sa, sc, rfl, _, _⟩ := hs3 (fun _ => False) (fun _ _ h => h)
            have H3 := hid (H2.out.nws (hn3.trans (Gr.alloc W3 (.cells #[.int .u64 xr.id, .int .u64 xr.ver, .slice sa xr.vals.length sc] 30)).nw))
            have hln := H3.out.lenC (by omega)
            clear hn3 hs3 hgt
            generalize hml : (mlive M2).length = ml at *
            have hml1 : ml ≤ 1 := HD5.out
            clear HD5 hml
            go_wp2_with (go_at_call 32; refine hln.mono ?_; rintro e W4 ⟨rfl, hn4⟩; have HN4 := hid (H3.out.nws hn4); clear hn4)
            go_roundw
            case rel => exact ⟨k + 1, M2, v, false, by omega, by omega, by go_num, rfl, rfl, HN4, VI2⟩
            case measure => simp [intOf]; omega
        · cases there with
          | false =>
            have hB : mdelB M (id % 68719476736) v = false := by rw [HDEL.out.1]; simp
            have HV2 := HDEL.out.2.2 (by rw [← HDEL.out.1]; exact hB)
            have hdl := HM.out.del (id := id % 68719476736) (v := v) ⟨hi0, by omega⟩ ⟨by omega, by omega⟩ (by omega)
            have VI2 := hid HV2
            have HB := hid hB
            clear HV2 HPUT HDEL hB
            generalize hM2 : mdelM M (id % 68719476736) v = M2 at *
            have HM2 := hid hM2
            clear hM2
            go_wp2_with fail
            rw [HVV.out]
            go_wp2_with fail
            refine hdl.mono ?_
            rintro e W2 ⟨rfl, hm2, _⟩
            rw [HB.out]
            rw [HM2.out] at hm2
            have H2 := hid hm2
            clear hm2 hdl
            have hgt := H2.out.get (id := id % 68719476736) ⟨hi0, by omega⟩
            have hd2 := VI2.out.def
            generalize kdef (id % 68719476736) M2 = xk at hgt hd2
            obtain ⟨xi, xv, xb, xr⟩ := xk
            obtain ⟨_, hd3, hd4, hd5⟩ := hd2
            dsimp only at hd3 hd4 hgt
            subst hd3
            have HD5 := hid hd5
            clear hd4 hd5
            go_wp2_with fail
            refine hgt.mono ?_
            rintro e W3 ⟨s3, rfl, hn3, hs3⟩
            obtain ⟨sa, sc, rfl, _, _⟩ := hs3 (fun _ => False) (fun _ _ h => h)
            have H3 := hid (H2.out.nws (hn3.trans (Gr.alloc W3 (.cells #[.int .u64 xr.id, .int .u64 xr.ver, .slice sa xr.vals.length sc] 30)).nw))
            have hln := H3.out.lenC (by omega)
            clear hn3 hs3 hgt
            generalize hml : (mlive M2).length = ml at *
            have hml1 : ml ≤ 1 := HD5.out
            clear HD5 hml
            go_wp2_with (go_at_call 32; refine hln.mono ?_; rintro e W4 ⟨rfl, hn4⟩; have HN4 := hid (H3.out.nws hn4); clear hn4)
            go_roundw
            case rel => exact ⟨k + 1, M2, last, false, by omega, by omega, by go_num, rfl, rfl, HN4, VI2⟩
            case measure => simp [intOf]; omega
          | true =>
            have hB : mdelB M (id % 68719476736) v = false := by rw [HDEL.out.1]; simp; omega
            have HV2 := HDEL.out.2.2 (by rw [← HDEL.out.1]; exact hB)
            have hdl := HM.out.del (id := id % 68719476736) (v := v) ⟨hi0, by omega⟩ ⟨by omega, by omega⟩ (by omega)
            have VI2 := hid HV2
            have HB := hid hB
            clear HV2 HPUT HDEL hB
            generalize hM2 : mdelM M (id % 68719476736) v = M2 at *
            have HM2 := hid hM2
            clear hM2
            go_wp2_with fail
            rw [HVV.out]
            go_wp2_with fail
            refine hdl.mono ?_
            rintro e W2 ⟨rfl, hm2, _⟩
            rw [HB.out]
            rw [HM2.out] at hm2
            have H2 := hid hm2
            clear hm2 hdl
            have hgt := H2.out.get (id := id % 68719476736) ⟨hi0, by omega⟩
            have hd2 := VI2.out.def
            generalize kdef (id % 68719476736) M2 = xk at hgt hd2
            obtain ⟨xi, xv, xb, xr⟩ := xk
            obtain ⟨_, hd3, hd4, hd5⟩ := hd2
            dsimp only at hd3 hd4 hgt
            subst hd3
            have hd6 := hd4 rfl
            obtain ⟨ri, rv, rl⟩ := xr
            dsimp only at hd6 hgt
            obtain rfl : last = rv := hd6.symm
            have HD5 := hid hd5
            clear hd4 hd5
            go_wp2_with fail
            refine hgt.mono ?_
            rintro e W3 ⟨s3, rfl, hn3, hs3⟩
            obtain ⟨sa, sc, rfl, _, _⟩ := hs3 (fun _ => False) (fun _ _ h => h)
            have H3 := hid (H2.out.nws (hn3.trans (Gr.alloc W3 (.cells #[.int .u64 ri, .int .u64 last, .slice sa rl.length sc] 30)).nw))
            have hln := H3.out.lenC (by omega)
            clear hn3 hs3 hgt
            generalize hml : (mlive M2).length = ml at *
            have hml1 : ml ≤ 1 := HD5.out
            clear HD5 hml
            go_wp2_with (go_at_call 32; refine hln.mono ?_; rintro e W4 ⟨rfl, hn4⟩; have HN4 := hid (H3.out.nws hn4); clear hn4)
            go_roundw
            case rel => exact ⟨k + 1, M2, last, true, by omega, by omega, by go_num, rfl, rfl, HN4, VI2⟩
            case measure => simp [intOf]; omega
      · obtain ⟨eb, eo, rfl, hex, hecc⟩ := HE.out (by omega)
        have d0 := HM.out.nw.cell (hecc k hel1) (fun h => h)
        rw [heb] at d0
        clear hecc heb hex
        by_cases hlv : last < v
        · cases there with
          | false =>
            have hB : mputB 1 M ⟨id % 68719476736, v, [v]⟩ = true := by rw [HPUT.out.1]; simp; omega
            have HV2 := HPUT.out.2.1 hlv
            have VI2 := hid HV2
            have HB := hid hB
            clear HV2 HPUT HDEL hB
            generalize hM2 : mputM 1 M ⟨id % 68719476736, v, [v]⟩ = M2 at *
            have HM2 := hid hM2
            clear hM2
            go_wp2_with fail
            rw [HVV.out]
            go_wp2_with fail
            refine ((HM.out.nws (Gr.alloc wr _).nw).put (r := ⟨id % 68719476736, v, [v]⟩) ⟨_, rfl, nums_one wr _ rfl .u32 (v) _ (fun e => by have h1 := HM.out.mbl; have e : wr.heap.size = mb := e; omega)⟩ (vers_wf hi0 hi1 hv1 hv30) (by simp) (by omega)).mono ?_
            rintro e W2 ⟨rfl, hm2, _⟩
            rw [HB.out]
            rw [HM2.out] at hm2
            have H2 := hid hm2
            clear hm2
            have hgt := H2.out.get (id := id % 68719476736) ⟨hi0, by omega⟩
            have hd2 := VI2.out.def
            generalize kdef (id % 68719476736) M2 = xk at hgt hd2
            obtain ⟨xi, xv, xb, xr⟩ := xk
            obtain ⟨_, hd3, hd4, hd5⟩ := hd2
            dsimp only at hd3 hd4 hgt
            subst hd3
            have hd6 := hd4 rfl
            obtain ⟨ri, rv, rl⟩ := xr
            dsimp only at hd6 hgt
            obtain rfl : v = rv := hd6.symm
            have HD5 := hid hd5
            clear hd4 hd5
            go_wp2_with fail
            refine hgt.mono ?_
            rintro e W3 ⟨s3, rfl, hn3, hs3⟩
            obtain ⟨sa, sc, rfl, _, _⟩ := hs3 (fun _ => False) (fun _ _ h => h)
            have H3 := hid (H2.out.nws (hn3.trans (Gr.alloc W3 (.cells #[.int .u64 ri, .int .u64 v, .slice sa rl.length sc] 30)).nw))
            have hln := H3.out.lenC (by omega)
            clear hn3 hs3 hgt
            generalize hml : (mlive M2).length = ml at *
            have hml1 : ml ≤ 1 := HD5.out
            clear HD5 hml
            go_wp2_with (go_at_call 32; refine hln.mono ?_; rintro e W4 ⟨rfl, hn4⟩; have HN4 := hid (H3.out.nws hn4); clear hn4)
            go_roundw
            case rel => exact ⟨k + 1, M2, v, true, by omega, by omega, by go_num, rfl, rfl, HN4, VI2⟩
            case measure => simp [intOf]; omega
          | true =>
            have hB : mputB 1 M ⟨id % 68719476736, v, [v]⟩ = true := by rw [HPUT.out.1]; simp; omega
            have HV2 := HPUT.out.2.1 hlv
            have VI2 := hid HV2
            have HB := hid hB
            clear HV2 HPUT HDEL hB
            generalize hM2 : mputM 1 M ⟨id % 68719476736, v, [v]⟩ = M2 at *
            have HM2 := hid hM2
            clear hM2
            go_wp2_with fail
            rw [HVV.out]
            go_wp2_with fail
            refine ((HM.out.nws (Gr.alloc wr _).nw).put (r := ⟨id % 68719476736, v, [v]⟩) ⟨_, rfl, nums_one wr _ rfl .u32 (v) _ (fun e => by have h1 := HM.out.mbl; have e : wr.heap.size = mb := e; omega)⟩ (vers_wf hi0 hi1 hv1 hv30) (by simp) (by omega)).mono ?_
            rintro e W2 ⟨rfl, hm2, _⟩
            rw [HB.out]
            rw [HM2.out] at hm2
            have H2 := hid hm2
            clear hm2
            have hgt := H2.out.get (id := id % 68719476736) ⟨hi0, by omega⟩
            have hd2 := VI2.out.def
            generalize kdef (id % 68719476736) M2 = xk at hgt hd2
            obtain ⟨xi, xv, xb, xr⟩ := xk
            obtain ⟨_, hd3, hd4, hd5⟩ := hd2
            dsimp only at hd3 hd4 hgt
            subst hd3
            have hd6 := hd4 rfl
            obtain ⟨ri, rv, rl⟩ := xr
            dsimp only at hd6 hgt
            obtain rfl : v = rv := hd6.symm
            have HD5 := hid hd5
            clear hd4 hd5
            go_wp2_with fail
            refine hgt.mono ?_
            rintro e W3 ⟨s3, rfl, hn3, hs3⟩
            obtain ⟨sa, sc, rfl, _, _⟩ := hs3 (fun _ => False) (fun _ _ h => h)
            have H3 := hid (H2.out.nws (hn3.trans (Gr.alloc W3 (.cells #[.int .u64 ri, .int .u64 v, .slice sa rl.length sc] 30)).nw))
            have hln := H3.out.lenC (by omega)
            clear hn3 hs3 hgt
            generalize hml : (mlive M2).length = ml at *
            have hml1 : ml ≤ 1 := HD5.out
            clear HD5 hml
            go_wp2_with (go_at_call 32; refine hln.mono ?_; rintro e W4 ⟨rfl, hn4⟩; have HN4 := hid (H3.out.nws hn4); clear hn4)
            go_roundw
            case rel => exact ⟨k + 1, M2, v, true, by omega, by omega, by go_num, rfl, rfl, HN4, VI2⟩
            case measure => simp [intOf]; omega
        · cases there with
          | false =>
            have hB : mputB 1 M ⟨id % 68719476736, v, [v]⟩ = false := by rw [HPUT.out.1]; simp; omega
            have HV2 := HPUT.out.2.2 hlv
            have VI2 := hid HV2
            have HB := hid hB
            clear HV2 HPUT HDEL hB
            generalize hM2 : mputM 1 M ⟨id % 68719476736, v, [v]⟩ = M2 at *
            have HM2 := hid hM2
            clear hM2
            go_wp2_with fail
            rw [HVV.out]
            go_wp2_with fail
            refine ((HM.out.nws (Gr.alloc wr _).nw).put (r := ⟨id % 68719476736, v, [v]⟩) ⟨_, rfl, nums_one wr _ rfl .u32 (v) _ (fun e => by have h1 := HM.out.mbl; have e : wr.heap.size = mb := e; omega)⟩ (vers_wf hi0 hi1 hv1 hv30) (by simp) (by omega)).mono ?_
            rintro e W2 ⟨rfl, hm2, _⟩
            rw [HB.out]
            rw [HM2.out] at hm2
            have H2 := hid hm2
            clear hm2
            have hgt := H2.out.get (id := id % 68719476736) ⟨hi0, by omega⟩
            have hd2 := VI2.out.def
            generalize kdef (id % 68719476736) M2 = xk at hgt hd2
            obtain ⟨xi, xv, xb, xr⟩ := xk
            obtain ⟨_, hd3, hd4, hd5⟩ := hd2
            dsimp only at hd3 hd4 hgt
            subst hd3
            have HD5 := hid hd5
            clear hd4 hd5
            go_wp2_with fail
            refine hgt.mono ?_
            rintro e W3 ⟨s3, rfl, hn3, hs3⟩
            obtain ⟨sa, sc, rfl, _, _⟩ := hs3 (fun _ => False) (fun _ _ h => h)
            have H3 := hid (H2.out.nws (hn3.trans (Gr.alloc W3 (.cells #[.int .u64 xr.id, .int .u64 xr.ver, .slice sa xr.vals.length sc] 30)).nw))
            have hln := H3.out.lenC (by omega)
            clear hn3 hs3 hgt
            generalize hml : (mlive M2).length = ml at *
            have hml1 : ml ≤ 1 := HD5.out
            clear HD5 hml
            go_wp2_with (go_at_call 32; refine hln.mono ?_; rintro e W4 ⟨rfl, hn4⟩; have HN4 := hid (H3.out.nws hn4); clear hn4)
            go_roundw
            case rel => exact ⟨k + 1, M2, last, false, by omega, by omega, by go_num, rfl, rfl, HN4, VI2⟩
            case measure => simp [intOf]; omega
          | true =>
            have hB : mputB 1 M ⟨id % 68719476736, v, [v]⟩ = false := by rw [HPUT.out.1]; simp; omega
            have HV2 := HPUT.out.2.2 hlv
            have VI2 := hid HV2
            have HB := hid hB
            clear HV2 HPUT HDEL hB
            generalize hM2 : mputM 1 M ⟨id % 68719476736, v, [v]⟩ = M2 at *
            have HM2 := hid hM2
            clear hM2
            go_wp2_with fail
            rw [HVV.out]
            go_wp2_with fail
            refine ((HM.out.nws (Gr.alloc wr _).nw).put (r := ⟨id % 68719476736, v, [v]⟩) ⟨_, rfl, nums_one wr _ rfl .u32 (v) _ (fun e => by have h1 := HM.out.mbl; have e : wr.heap.size = mb := e; omega)⟩ (vers_wf hi0 hi1 hv1 hv30) (by simp) (by omega)).mono ?_
            rintro e W2 ⟨rfl, hm2, _⟩
            rw [HB.out]
            rw [HM2.out] at hm2
            have H2 := hid hm2
            clear hm2
            have hgt := H2.out.get (id := id % 68719476736) ⟨hi0, by omega⟩
            have hd2 := VI2.out.def
            generalize kdef (id % 68719476736) M2 = xk at hgt hd2
            obtain ⟨xi, xv, xb, xr⟩ := xk
            obtain ⟨_, hd3, hd4, hd5⟩ := hd2
            dsimp only at hd3 hd4 hgt
            subst hd3
            have hd6 := hd4 rfl
            obtain ⟨ri, rv, rl⟩ := xr
            dsimp only at hd6 hgt
            obtain rfl : last = rv := hd6.symm
            have HD5 := hid hd5
            clear hd4 hd5
            go_wp2_with fail
            refine hgt.mono ?_
            rintro e W3 ⟨s3, rfl, hn3, hs3⟩
            obtain ⟨sa, sc, rfl, _, _⟩ := hs3 (fun _ => False) (fun _ _ h => h)
            have H3 := hid (H2.out.nws (hn3.trans (Gr.alloc W3 (.cells #[.int .u64 ri, .int .u64 last, .slice sa rl.length sc] 30)).nw))
            have hln := H3.out.lenC (by omega)
            clear hn3 hs3 hgt
            generalize hml : (mlive M2).length = ml at *
            have hml1 : ml ≤ 1 := HD5.out
            clear HD5 hml
            go_wp2_with (go_at_call 32; refine hln.mono ?_; rintro e W4 ⟨rfl, hn4⟩; have HN4 := hid (H3.out.nws hn4); clear hn4)
            go_roundw
            case rel => exact ⟨k + 1, M2, last, true, by omega, by omega, by go_num, rfl, rfl, HN4, VI2⟩
            case measure => simp [intOf]; omega
      · by_cases hlv : last < v
        · cases there with
          | false =>
            have hB : mputB 1 M ⟨id % 68719476736, v, [v]⟩ = true := by rw [HPUT.out.1]; simp; omega
            have HV2 := HPUT.out.2.1 hlv
            have VI2 := hid HV2
            have HB := hid hB
            clear HV2 HPUT HDEL hB
            generalize hM2 : mputM 1 M ⟨id % 68719476736, v, [v]⟩ = M2 at *
            have HM2 := hid hM2
            clear hM2
            go_wp2_with fail
            rw [HVV.out]
            go_wp2_with fail
            refine ((HM.out.nws (Gr.alloc wr _).nw).put (r := ⟨id % 68719476736, v, [v]⟩) ⟨_, rfl, nums_one wr _ rfl .u32 (v) _ (fun e => by have h1 := HM.out.mbl; have e : wr.heap.size = mb := e; omega)⟩ (vers_wf hi0 hi1 hv1 hv30) (by simp) (by omega)).mono ?_
            rintro e W2 ⟨rfl, hm2, _⟩
            rw [HB.out]
            rw [HM2.out] at hm2
            have H2 := hid hm2
            clear hm2
            have hgt := H2.out.get (id := id % 68719476736) ⟨hi0, by omega⟩
            have hd2 := VI2.out.def
            generalize kdef (id % 68719476736) M2 = xk at hgt hd2
            obtain ⟨xi, xv, xb, xr⟩ := xk
            obtain ⟨_, hd3, hd4, hd5⟩ := hd2
            dsimp only at hd3 hd4 hgt
            subst hd3
            have hd6 := hd4 rfl
            obtain ⟨ri, rv, rl⟩ := xr
            dsimp only at hd6 hgt
            obtain rfl : v = rv := hd6.symm
            have HD5 := hid hd5
            clear hd4 hd5
            go_wp2_with fail
            refine hgt.mono ?_
            rintro e W3 ⟨s3, rfl, hn3, hs3⟩
            obtain ⟨sa, sc, rfl, _, _⟩ := hs3 (fun _ => False) (fun _ _ h => h)
            have H3 := hid (H2.out.nws (hn3.trans (Gr.alloc W3 (.cells #[.int .u64 ri, .int .u64 v, .slice sa rl.length sc] 30)).nw))
            have hln := H3.out.lenC (by omega)
            clear hn3 hs3 hgt
            generalize hml : (mlive M2).length = ml at *
            have hml1 : ml ≤ 1 := HD5.out
            clear HD5 hml
            go_wp2_with (go_at_call 32; refine hln.mono ?_; rintro e W4 ⟨rfl, hn4⟩; have HN4 := hid (H3.out.nws hn4); clear hn4)
            go_roundw
            case rel => exact ⟨k + 1, M2, v, true, by omega, by omega, by go_num, rfl, rfl, HN4, VI2⟩
            case measure => simp [intOf]; omega
          | true =>
            have hB : mputB 1 M ⟨id % 68719476736, v, [v]⟩ = true := by rw [HPUT.out.1]; simp; omega
            have HV2 := HPUT.out.2.1 hlv
            have VI2 := hid HV2
            have HB := hid hB
            clear HV2 HPUT HDEL hB
            generalize hM2 : mputM 1 M ⟨id % 68719476736, v, [v]⟩ = M2 at *
            have HM2 := hid hM2
            clear hM2
            go_wp2_with fail
            rw [HVV.out]
            go_wp2_with fail
            refine ((HM.out.nws (Gr.alloc wr _).nw).put (r := ⟨id % 68719476736, v, [v]⟩) ⟨_, rfl, nums_one wr _ rfl .u32 (v) _ (fun e => by have h1 := HM.out.mbl; have e : wr.heap.size = mb := e; omega)⟩ (vers_wf hi0 hi1 hv1 hv30) (by simp) (by omega)).mono ?_
            rintro e W2 ⟨rfl, hm2, _⟩
            rw [HB.out]
            rw [HM2.out] at hm2
            have H2 := hid hm2
            clear hm2
            have hgt := H2.out.get (id := id % 68719476736) ⟨hi0, by omega⟩
            have hd2 := VI2.out.def
            generalize kdef (id % 68719476736) M2 = xk at hgt hd2
            obtain ⟨xi, xv, xb, xr⟩ := xk
            obtain ⟨_, hd3, hd4, hd5⟩ := hd2
            dsimp only at hd3 hd4 hgt
            subst hd3
            have hd6 := hd4 rfl
            obtain ⟨ri, rv, rl⟩ := xr
            dsimp only at hd6 hgt
            obtain rfl : v = rv := hd6.symm
            have HD5 := hid hd5
            clear hd4 hd5
            go_wp2_with fail
            refine hgt.mono ?_
            rintro e W3 ⟨s3, rfl, hn3, hs3⟩
            obtain ⟨sa, sc, rfl, _, _⟩ := hs3 (fun _ => False) (fun _ _ h => h)
            have H3 := hid (H2.out.nws (hn3.trans (Gr.alloc W3 (.cells #[.int .u64 ri, .int .u64 v, .slice sa rl.length sc] 30)).nw))
            have hln := H3.out.lenC (by omega)
            clear hn3 hs3 hgt
            generalize hml : (mlive M2).length = ml at *
            have hml1 : ml ≤ 1 := HD5.out
            clear HD5 hml
            go_wp2_with (go_at_call 32; refine hln.mono ?_; rintro e W4 ⟨rfl, hn4⟩; have HN4 := hid (H3.out.nws hn4); clear hn4)
            go_roundw
            case rel => exact ⟨k + 1, M2, v, true, by omega, by omega, by go_num, rfl, rfl, HN4, VI2⟩
            case measure => simp [intOf]; omega
        · cases there with
          | false =>
            have hB : mputB 1 M ⟨id % 68719476736, v, [v]⟩ = false := by rw [HPUT.out.1]; simp; omega
            have HV2 := HPUT.out.2.2 hlv
            have VI2 := hid HV2
            have HB := hid hB
            clear HV2 HPUT HDEL hB
            generalize hM2 : mputM 1 M ⟨id % 68719476736, v, [v]⟩ = M2 at *
            have HM2 := hid hM2
            clear hM2
            go_wp2_with fail
            rw [HVV.out]
            go_wp2_with fail
            refine ((HM.out.nws (Gr.alloc wr _).nw).put (r := ⟨id % 68719476736, v, [v]⟩) ⟨_, rfl, nums_one wr _ rfl .u32 (v) _ (fun e => by have h1 := HM.out.mbl; have e : wr.heap.size = mb := e; omega)⟩ (vers_wf hi0 hi1 hv1 hv30) (by simp) (by omega)).mono ?_
            rintro e W2 ⟨rfl, hm2, _⟩
            rw [HB.out]
            rw [HM2.out] at hm2
            have H2 := hid hm2
            clear hm2
            have hgt := H2.out.get (id := id % 68719476736) ⟨hi0, by omega⟩
            have hd2 := VI2.out.def
            generalize kdef (id % 68719476736) M2 = xk at hgt hd2
            obtain ⟨xi, xv, xb, xr⟩ := xk
            obtain ⟨_, hd3, hd4, hd5⟩ := hd2
            dsimp only at hd3 hd4 hgt
            subst hd3
            have HD5 := hid hd5
            clear hd4 hd5
            go_wp2_with fail
            refine hgt.mono ?_
            rintro e W3 ⟨s3, rfl, hn3, hs3⟩
            obtain ⟨sa, sc, rfl, _, _⟩ := hs3 (fun _ => False) (fun _ _ h => h)
            have H3 := hid (H2.out.nws (hn3.trans (Gr.alloc W3 (.cells #[.int .u64 xr.id, .int .u64 xr.ver, .slice sa xr.vals.length sc] 30)).nw))
            have hln := H3.out.lenC (by omega)
            clear hn3 hs3 hgt
            generalize hml : (mlive M2).length = ml at *
            have hml1 : ml ≤ 1 := HD5.out
            clear HD5 hml
            go_wp2_with (go_at_call 32; refine hln.mono ?_; rintro e W4 ⟨rfl, hn4⟩; have HN4 := hid (H3.out.nws hn4); clear hn4)
            go_roundw
            case rel => exact ⟨k + 1, M2, last, false, by omega, by omega, by go_num, rfl, rfl, HN4, VI2⟩
            case measure => simp [intOf]; omega
          | true =>
            have hB : mputB 1 M ⟨id % 68719476736, v, [v]⟩ = false := by rw [HPUT.out.1]; simp; omega
            have HV2 := HPUT.out.2.2 hlv
            have VI2 := hid HV2
            have HB := hid hB
            clear HV2 HPUT HDEL hB
            generalize hM2 : mputM 1 M ⟨id % 68719476736, v, [v]⟩ = M2 at *
            have HM2 := hid hM2
            clear hM2
            go_wp2_with fail
            rw [HVV.out]
            go_wp2_with fail
            refine ((HM.out.nws (Gr.alloc wr _).nw).put (r := ⟨id % 68719476736, v, [v]⟩) ⟨_, rfl, nums_one wr _ rfl .u32 (v) _ (fun e => by have h1 := HM.out.mbl; have e : wr.heap.size = mb := e; omega)⟩ (vers_wf hi0 hi1 hv1 hv30) (by simp) (by omega)).mono ?_
            rintro e W2 ⟨rfl, hm2, _⟩
            rw [HB.out]
            rw [HM2.out] at hm2
            have H2 := hid hm2
            clear hm2
            have hgt := H2.out.get (id := id % 68719476736) ⟨hi0, by omega⟩
            have hd2 := VI2.out.def
            generalize kdef (id % 68719476736) M2 = xk at hgt hd2
            obtain ⟨xi, xv, xb, xr⟩ := xk
            obtain ⟨_, hd3, hd4, hd5⟩ := hd2
            dsimp only at hd3 hd4 hgt
            subst hd3
            have hd6 := hd4 rfl
            obtain ⟨ri, rv, rl⟩ := xr
            dsimp only at hd6 hgt
            obtain rfl : last = rv := hd6.symm
            have HD5 := hid hd5
            clear hd4 hd5
            go_wp2_with fail
            refine hgt.mono ?_
            rintro e W3 ⟨s3, rfl, hn3, hs3⟩
            obtain ⟨sa, sc, rfl, _, _⟩ := hs3 (fun _ => False) (fun _ _ h => h)
            have H3 := hid (H2.out.nws (hn3.trans (Gr.alloc W3 (.cells #[.int .u64 ri, .int .u64 last, .slice sa rl.length sc] 30)).nw))
            have hln := H3.out.lenC (by omega)
            clear hn3 hs3 hgt
            generalize hml : (mlive M2).length = ml at *
            have hml1 : ml ≤ 1 := HD5.out
            clear HD5 hml
            go_wp2_with (go_at_call 32; refine hln.mono ?_; rintro e W4 ⟨rfl, hn4⟩; have HN4 := hid (H3.out.nws hn4); clear hn4)
            go_roundw
            case rel => exact ⟨k + 1, M2, last, true, by omega, by omega, by go_num, rfl, rfl, HN4, VI2⟩
            case measure => simp [intOf]; omega
    · clear HV HE HWV
      have hex : ¬ k < vs.length ∨ (k < vs.length ∧ ¬ k < 40) := by omega
      clear hlt
      rcases hex with hx1 | ⟨hx1, hx2⟩
      all_goals
        go_wp2
        go_ret
        exact ⟨rfl, HM.out.nw⟩

end Go.Proofs.Ytkehhopdppampaa
