/-
  ModelPut: model.Put, Delete: as the plain model.
-/
import Derived.Test.YtkehhopdppampaaModelL
namespace Go.Proofs.Ytkehhopdppampaa
set_option linter.unusedVariables false
set_option linter.unusedSimpArgs false
open Go.RowKit Go.Sort Go.Maps

theorem mmap_nonnil (bm : Nat) : ∀ w, (binOp .eql 86 (.map (some bm)) (.map none)).run Try.prog w = .ok (.bool false) w := fun w => by kernel_rfl

theorem kn_ver (a b c : Int) (is : Bool) (s : Value) (w : World) : (Instr.field 91 (.agg #[.int .u64 a, .bool is, .int .u64 b, .int .u64 c, s]) 0).run Try.prog w = .ok (.int .u64 a) w := by kernel_rfl
theorem kn_is (a b c : Int) (is : Bool) (s : Value) (w : World) : (Instr.field 91 (.agg #[.int .u64 a, .bool is, .int .u64 b, .int .u64 c, s]) 1).run Try.prog w = .ok (.bool is) w := by kernel_rfl

theorem MRep.put {X : Nat → Prop} {w w' : World} {p mb : Nat} {attrs : Int} {M : List Kn} {v : Value} {L : List (Int × Value)} {x : Kn}
    (hb : w.heap[p]? = some (.cells #[.int .i64 attrs, .map (some mb)] 88 (0, 0))) (ht : KTied X w L M) (hk : Kp (fun k => k = mb) w w') (hX : X mb) (hne : p ≠ mb)
    (hL : MapIs w' mb (mput x.id v L)) (hv : KnV X w' v x) : MRep X w' p mb attrs (kput x M) :=
  have hk' : Kp X w w' := hk.mono (fun k _ e => by rw [e]; exact hX)
  ⟨_, hk.heap hb hne, hL, (ht.kp hk').put hv⟩

set_option maxHeartbeats 4000000 in
set_option maxRecDepth 100000 in
theorem mput_any (X : Nat → Prop) (p mb : Nat) (attrs : Int) (M : List Kn) (v : Value) (r : Rec) (w : World) (hG : MRep X w p mb attrs M) (hX : X mb) (hF : Fresh w.heap.size X) (hr : RecV X w v r)
    (w0 : W64 r.id) (w1 : W64 r.ver) (hvl : r.vals.length ≤ 1000000000000) (hM : M.length ≤ 1000000000) :
    Calls Try.prog 24 #[.pointer (some ⟨p, 0, none⟩), v] w fun e w' => e = .returned (.bool (mputB attrs M r)) ∧ Kp (fun k => k = mb) w w' ∧ MRep X w' p mb attrs (mputM attrs M r) := by
  have hm := mixed
  have hfv := kn_ver
  have hfi := kn_is
  have hne := hG.ne
  have hlt := hG.lt
  have HG := hid hG
  obtain ⟨L, hb, hL, ht⟩ := hG
  have hR := fun (W : World) (h : Gr w W) => right_any X attrs v r W (hr.gr h) w0.1 w0.2 hvl
  obtain ⟨s, rfl, hn⟩ := hr
  have HN := hid hn
  obtain ⟨sa, sc, rfl, hsl, _⟩ := hn
  obtain ⟨ls, hlv, hln⟩ := ht.look (k := r.id)
  have hLl : L.length < maxLen := by have h1 := ht.length; unfold maxLen; omega
  have hlk : ∀ W', Nw w W' → (Instr.lookup 86 (.map (some mb)) (.int .u64 r.id) false).run Try.prog W' = .ok (.agg #[.int .u64 (kdef r.id M).ver, .bool (kdef r.id M).is, .int .u64 (kdef r.id M).r.id, .int .u64 (kdef r.id M).r.ver, ls]) W' := fun W' hW => by
    rw [← hlv]
    exact ((hL.kp (X := fun _ => False) hW (fun h => h)) : MapIs W' mb L).look1 Try.underlying86 zeroKn w0.1 w0.2
  have HLK := hid hlk
  have HRT := hid hR
  have p0 : w.cell? ⟨p, 0, none⟩ = some (.int .i64 attrs) := by simp [World.cell?, hb]
  have p1 : w.cell? ⟨p, 1, none⟩ = some (.map (some mb)) := by simp [World.cell?, hb]
  have HL := hid hL
  have HT := hid ht
  have HB := hid hb
  have hLs : ∃ la ln lc, ls = .slice la ln lc := by obtain ⟨la, lc, h, _⟩ := hln; exact ⟨_, _, _, h⟩
  obtain ⟨la, ln, lc, rfl⟩ := hLs
  clear hlk hlv hln hL ht hb hR
  go_enter Try.func24, Try.ntmps24
  go_wp2_with fail
  generalize hW : w.alloc (Obj.cells #[.int .u64 r.id, .int .u64 r.ver, .slice sa r.vals.length sc] 30) = W
  have g0 : Gr w W := by rw [← hW]; exact Gr.alloc _ _
  have hz : W.heap.size = w.heap.size + 1 := by rw [← hW]; simp
  have d0 : W.cell? ⟨w.heap.size, 0, none⟩ = some (.int .u64 r.id) := by rw [← hW]; simp
  have d1 : W.cell? ⟨w.heap.size, 1, none⟩ = some (.int .u64 r.ver) := by rw [← hW]; simp
  have d2 : W.cell? ⟨w.heap.size, 2, none⟩ = some (.slice sa r.vals.length sc) := by rw [← hW]; simp
  have q0 := g0.cell p0
  have q1 := g0.cell p1
  have f0 := cell_grown (World.block_lt_of_cell? _ _ q0) q0
  have f1 := cell_grown (World.block_lt_of_cell? _ _ q1) q1
  have f2 := cell_grown (World.block_lt_of_cell? _ _ d0) d0
  have f3 := cell_grown (World.block_lt_of_cell? _ _ d1) d1
  have f4 := cell_grown (World.block_lt_of_cell? _ _ d2) d2
  have hright : ∀ nq os, Calls Try.prog 45 #[.int .i64 attrs, .agg #[.int .u64 r.id, .int .u64 r.ver, .slice sa r.vals.length sc]] (grow (W.drewN nq) os) fun e w' => e = .returned (.bool (rightB attrs r)) ∧ Gr (grow (W.drewN nq) os) w' := fun nq os =>
    HRT.out _ (g0.trans (Gr.grow _ _ _))
  have hlook : ∀ nq os, (Instr.lookup 86 (.map (some mb)) (.int .u64 r.id) false).run Try.prog (grow (W.drewN nq) os) = .ok (.agg #[.int .u64 (kdef r.id M).ver, .bool (kdef r.id M).is, .int .u64 (kdef r.id M).r.id, .int .u64 (kdef r.id M).r.ver, .slice la ln lc]) (grow (W.drewN nq) os) := fun nq os => HLK.out _ (g0.trans (Gr.grow _ _ _)).nw
  have HG0 := hid g0
  clear hW g0 p0 p1
  have HNO : Hid (mputB attrs M r = false → mputM attrs M r = M) := hid (fun h => by simp [mputM, h])
  have HYES : Hid (mputB attrs M r = true → mputM attrs M r = kput ⟨r.id, r.ver, true, r⟩ M) := hid (fun h => by simp [mputM, h])
  generalize htt : rightB attrs r = tt at *
  have HTT := hid htt
  clear htt
  cases tt with
  | false =>
    have hB := hid (show mputB attrs M r = false by simp [mputB, HTT.out])
    refine wp_region_quiet_grown (by assumption) (by kernel_rfl) ?_
    repeat (go_big_quiet_step (first | (go_at_call 45; refine Calls.gr_of (hright _ _))))
    refine wpQuiet_nil ?_
    intro _ hw'
    obtain ⟨⟨nq, osq⟩, hw''⟩ := hw'
    subst hw''
    clear f0 f1 f2 f3 f4 hright hlook q0 q1 d0 d1 d2
    go_wp2
    go_ret
    exact ⟨ret_bool hB.out.symm, (HG0.out.trans (Gr.grow _ _ _)).kp _, by rw [HNO.out hB.out]; exact HG.out.nw (HG0.out.trans (Gr.grow _ _ _)).nw⟩
  | true =>
    by_cases hvv : (kdef r.id M).ver < r.ver
    · have hB := hid (show mputB attrs M r = true by simp [mputB, HTT.out, hvv])
      have hd : decide (r.ver ≤ (kdef r.id M).ver) = false := by simp; omega
      clear hvv
      refine wp_region_quiet_grown (by assumption) (by kernel_rfl) ?_
      repeat (go_big_quiet_step (first | (go_at_call 45; refine Calls.gr_of (hright _ _))))
      refine wpQuiet_nil ?_
      intro _ hw'
      obtain ⟨⟨nq, osq⟩, hw''⟩ := hw'
      subst hw''
      have j0 := f2 nq osq
      have j1 := f3 nq osq
      have j2 := f4 nq osq
      have j4 := f1 nq osq
      have GV := hid (HG0.out.trans (Gr.grow W nq osq))
      have hzV : w.heap.size < (grow (W.drewN nq) osq).heap.size := by have := (Gr.grow W nq osq).size; omega
      clear f0 f1 f2 f3 f4 hright hlook q0 q1 d0 d1 d2 hd
      generalize grow (W.drewN nq) osq = V at *
      have hwm : w.heap.size ≠ mb := by omega
      have hcopy : ∀ W', Nw V W' → Calls Try.prog 38 #[.agg #[.int .u64 r.id, .int .u64 r.ver, .slice sa r.vals.length sc]] W' (Copied r W') := fun W' hW =>
        copy_any X _ r W' ⟨_, rfl, (HN.out.gr GV.out).kp hW.to⟩ hvl
      have hstore : ∀ W', Nw V W' → ∀ v, ∃ w', (Instr.mapUpdate 86 (.map (some mb)) (.int .u64 r.id) v).run Try.prog W' = .ok () w' ∧ MapIs w' mb (mput r.id v L) ∧ Kp (fun k => k = mb) W' w' := fun W' hW v =>
        (HL.out.kp (GV.out.nw.trans hW) (fun h => h)).store Try.underlying86 hLl w0.1 w0.2 v
      go_wp2_with fail
      go_region_held3 (fun w' => w'.cell? ⟨p, 1, none⟩ = some (.map (some mb)) ∧ w'.cell? ⟨w.heap.size, 0, none⟩ = some (.int .u64 r.id) ∧ w'.cell? ⟨w.heap.size, 1, none⟩ = some (.int .u64 r.ver) ∧ w'.cell? ⟨w.heap.size, 2, none⟩ = some (.slice sa r.vals.length sc))
        (first
          | go_keep
          | exact ⟨KC.out _ _ j4, KC.out _ _ j0, KC.out _ _ j1, KC.out _ _ j2⟩
          | exact ⟨KD.out _ _ j4 hne, KD.out _ _ j0 hwm, KD.out _ _ j1 hwm, KD.out _ _ j2 hwm⟩)
        (first
          | (go_at_call 38; refine (hcopy _ ((Gr.drew _).nw)).mono ?_; rintro e W3 ⟨v', rfl, hnw, hrec⟩; obtain ⟨s3, rfl, hs3⟩ := RecV.fresh hrec; have hnw2 := (Gr.drew V).nw.trans hnw; have KC : Hid (∀ (a : Addr) (v : Value), V.cell? a = some v → W3.cell? a = some v) := hid (fun a v h => hnw2.cell h (fun h => h)); obtain ⟨W4, hrun, hmp, hk4⟩ := hstore W3 hnw2 (.agg #[.int .u64 r.ver, .bool true, .int .u64 r.id, .int .u64 r.ver, s3]); have KD : Hid (∀ (a : Addr) (v : Value), V.cell? a = some v → a.block ≠ mb → W4.cell? a = some v) := hid (fun a v h hb => hk4.cell (hnw2.cell h (fun h => h)) hb)))
      have FIN : Hid (Kp (fun k => k = mb) w W4 ∧ MRep X W4 p mb attrs (kput ⟨r.id, r.ver, true, r⟩ M)) := hid ⟨((Nw.to (GV.out.nw.trans hnw2)).trans hk4), MRep.put (x := ⟨r.id, r.ver, true, r⟩) (hnw2.heap (GV.out.heap HB.out) (fun h => h)) ((HT.out.kp (GV.out.kp X)).kp (Nw.to hnw2)) hk4 hX hne hmp ⟨s3, rfl, (hs3 X (fun b hb => hF b (by have e1 := GV.out.size; have e3 : V.drew.heap.size = V.heap.size := rfl; omega))).kp (hk4.mono (fun k _ e => by rw [e]; exact hX))⟩⟩
      clear hrun hmp hk4 KC KD hnw hnw2 hrec hs3 hcopy hstore
      go_wp2
      go_ret
      exact ⟨ret_bool hB.out.symm, FIN.out.1, by rw [HYES.out hB.out]; exact FIN.out.2⟩
    · have hB := hid (show mputB attrs M r = false by simp [mputB, HTT.out]; omega)
      have hd : decide (r.ver ≤ (kdef r.id M).ver) = true := by simp; omega
      clear hvv
      refine wp_region_quiet_grown (by assumption) (by kernel_rfl) ?_
      repeat (go_big_quiet_step (first | (go_at_call 45; refine Calls.gr_of (hright _ _))))
      refine wpQuiet_nil ?_
      intro _ hw'
      obtain ⟨⟨nq, osq⟩, hw''⟩ := hw'
      subst hw''
      clear f0 f1 f2 f3 f4 hright hlook q0 q1 d0 d1 d2
      go_wp2
      go_ret
      exact ⟨ret_bool hB.out.symm, (HG0.out.trans (Gr.grow _ _ _)).kp _, by rw [HNO.out hB.out]; exact HG.out.nw (HG0.out.trans (Gr.grow _ _ _)).nw⟩

set_option maxHeartbeats 4000000 in
set_option maxRecDepth 100000 in
theorem mdel_any (X : Nat → Prop) (p mb : Nat) (attrs : Int) (M : List Kn) (id ver : Int) (w : World) (hG : MRep X w p mb attrs M) (hX : X mb) (w0 : W64 id) (w1 : W64 ver) (hM : M.length ≤ 1000000000) :
    Calls Try.prog 29 #[.pointer (some ⟨p, 0, none⟩), .int .u64 id, .int .u64 ver] w fun e w' => e = .returned (.bool (mdelB M id ver)) ∧ Kp (fun k => k = mb) w w' ∧ MRep X w' p mb attrs (mdelM M id ver) := by
  have hm := mixed
  have hfv := kn_ver
  have hfi := kn_is
  have hne := hG.ne
  have HG := hid hG
  obtain ⟨L, hb, hL, ht⟩ := hG
  obtain ⟨ls, hlv, hln⟩ := ht.look (k := id)
  have hLl : L.length < maxLen := by have h1 := ht.length; unfold maxLen; omega
  have hlk : (Instr.lookup 86 (.map (some mb)) (.int .u64 id) false).run Try.prog w = .ok (.agg #[.int .u64 (kdef id M).ver, .bool (kdef id M).is, .int .u64 (kdef id M).r.id, .int .u64 (kdef id M).r.ver, ls]) w := by
    rw [← hlv]
    exact hL.look1 Try.underlying86 zeroKn w0.1 w0.2
  obtain ⟨W4, hrun, hmp, hk4⟩ := hL.store Try.underlying86 hLl w0.1 w0.2 (.agg #[.int .u64 ver, .bool false, .int .u64 0, .int .u64 0, .slice none 0 0])
  have HK := hid hk4
  have HMP := hid hmp
  have HT := hid ht
  have HB := hid hb
  have p1 : w.cell? ⟨p, 1, none⟩ = some (.map (some mb)) := by simp [World.cell?, hb]
  have hLs : ∃ la ln lc, ls = .slice la ln lc := by obtain ⟨la, lc, h, _⟩ := hln; exact ⟨_, _, _, h⟩
  obtain ⟨la, ln, lc, rfl⟩ := hLs
  have HNO : Hid (mdelB M id ver = false → mdelM M id ver = M) := hid (fun h => by simp [mdelM, h])
  have HYES : Hid (mdelB M id ver = true → mdelM M id ver = kput ⟨id, ver, false, zRec⟩ M) := hid (fun h => by simp [mdelM, h])
  have HDB : Hid (mdelB M id ver = ((kdef id M).is && decide ((kdef id M).ver < ver))) := hid rfl
  clear hlv hln hL ht hb hk4 hmp
  generalize kdef id M = kd at *
  obtain ⟨ki, kv, kb, kr⟩ := kd
  dsimp only at *
  cases kb with
  | false =>
    have hB := hid (show mdelB M id ver = false by rw [HDB.out]; rfl)
    go_enter Try.func29, Try.ntmps29
    go_wp2
    go_ret
    exact ⟨ret_bool hB.out.symm, Kp.refl _ _, by rw [HNO.out hB.out]; exact HG.out⟩
  | true =>
    by_cases hv : kv < ver
    · have hB := hid (show mdelB M id ver = true by rw [HDB.out]; simp [hv])
      go_enter Try.func29, Try.ntmps29
      go_wp2
      go_ret
      exact ⟨ret_bool hB.out.symm, HK.out, by rw [HYES.out hB.out]; exact MRep.put (x := ⟨id, ver, false, zRec⟩) HB.out HT.out HK.out hX hne HMP.out ⟨_, rfl, nums_nil _ _⟩⟩
    · have hB := hid (show mdelB M id ver = false by rw [HDB.out]; simp; omega)
      go_enter Try.func29, Try.ntmps29
      go_wp2
      go_ret
      exact ⟨ret_bool hB.out.symm, Kp.refl _ _, by rw [HNO.out hB.out]; exact HG.out⟩

end Go.Proofs.Ytkehhopdppampaa
