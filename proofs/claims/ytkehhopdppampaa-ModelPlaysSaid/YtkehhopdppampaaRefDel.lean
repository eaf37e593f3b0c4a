/-
  RefDel: the reference's model: Delete.
-/
import Derived.Test.YtkehhopdppampaaRefPut
namespace Go.Proofs.Ytkehhopdppampaa
set_option linter.unusedVariables false
set_option linter.unusedSimpArgs false
open Go.RowKit Go.Sort Go.Maps

set_option maxRecDepth 100000 in
set_option maxHeartbeats 8000000 in
theorem refDel_any (B : Nat) (Z : Nat → Prop) (q : Nat) (attrs : Int) (L : List Rec) (ids lst : List Int) (id v : Int) (w : World) (hG : RM B Z w q attrs L ids lst) (hB : B ≤ w.heap.size) (hn : L.length ≤ 100000000) (hW : WfL L) (hlen : lst.length = ids.length) (hin : ids.length ≤ 1000000000) :
    Calls Try.prog 30 #[.pointer (some ⟨q, 0, none⟩), .int .u64 id, .int .u64 v] w (RPut B Z w q attrs (rdelOk L id v) L (dropL id L) ids lst (pnoteI id ids) (pnoteL id v ids lst)) := by
  have hget := refGet_any B Z q attrs L ids lst id w hG (by omega) hW
  have HG := hid hG
  have HB := hid hB
  have HLN := hid hlen
  have hdl : (dropL id L).length ≤ L.length := List.length_filter_le _ _
  have HOK : Hid (rdelOk L id v = ((rfind id L).isSome && decide ((rget id L).ver < v))) := hid rfl
  clear hG hlen
  generalize (rfind id L).isSome = fb at *
  generalize rget id L = r at *
  have go : ∀ (V : World), Nw w V → True := fun _ _ => trivial
  cases fb with
  | false =>
    have hok : rdelOk L id v = false := by rw [HOK.out]; rfl
    rw [hok]
    clear hok
    go_enter Try.func30, Try.ntmps30
    go_wp2_with fail
    refine hget.mono ?_
    rintro e W1 ⟨s, rfl, hn1, hs1⟩
    obtain ⟨sa, sc, rfl, _, _⟩ := hs1 (fun _ => False) (fun _ _ h => h)
    have HN1 := hid hn1
    clear hn1 hs1 hget
    go_wp2
    go_ret
    exact ⟨rfl, Z, Turned.nw (HN1.out.trans (Gr.alloc _ _).nw), HG.out.nw (HN1.out.trans (Gr.alloc _ _).nw)⟩
  | true =>
    by_cases hv : r.ver < v
    · have hok : rdelOk L id v = true := by rw [HOK.out]; simp [hv]
      rw [hok]
      clear hok
      go_enter Try.func30, Try.ntmps30
      go_wp2_with fail
      refine hget.mono ?_
      rintro e W1 ⟨s, rfl, hn1, hs1⟩
      obtain ⟨sa, sc, rfl, _, _⟩ := hs1 (fun _ => False) (fun _ _ h => h)
      have HN1 := hid (hn1.trans (Gr.alloc W1 (.cells #[.int .u64 r.id, .int .u64 r.ver, .slice sa r.vals.length sc] 30)).nw)
      clear hn1 hs1 hget
      have hdrop := drop_any B Z q attrs L ids lst id _ (HG.out.nw HN1.out) (by omega)
      go_wp2_with fail
      refine hdrop.mono ?_
      rintro e W2 ⟨rfl, ht2, hr2⟩
      have HT2 := hid ((Turned.nw HN1.out).trans ht2)
      have hnote := note_any B Z q attrs (dropL id L) ids lst id v W2 hr2 (Nat.le_trans HB.out HT2.out.1.size) HLN.out hin
      clear ht2 hr2 hdrop
      go_wp2_with fail
      refine hnote.mono ?_
      rintro e W4 ⟨rfl, Z', ht4, hr4⟩
      have HT4 := hid (HT2.out.trans ht4)
      have HR4 := hid hr4
      clear ht4 hr4 hnote
      go_wp2
      go_ret
      exact ⟨rfl, Z', HT4.out, HR4.out⟩
    · have hok : rdelOk L id v = false := by rw [HOK.out]; simp; omega
      rw [hok]
      clear hok
      go_enter Try.func30, Try.ntmps30
      go_wp2_with fail
      refine hget.mono ?_
      rintro e W1 ⟨s, rfl, hn1, hs1⟩
      obtain ⟨sa, sc, rfl, _, _⟩ := hs1 (fun _ => False) (fun _ _ h => h)
      have HN1 := hid hn1
      clear hn1 hs1 hget
      go_wp2
      go_ret
      exact ⟨rfl, Z, Turned.nw (HN1.out.trans (Gr.alloc _ _).nw), HG.out.nw (HN1.out.trans (Gr.alloc _ _).nw)⟩

end Go.Proofs.Ytkehhopdppampaa
