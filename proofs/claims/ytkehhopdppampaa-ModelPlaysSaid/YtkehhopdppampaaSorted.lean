/-
  Sorted: slices.Sort at a slice of no element; slices.Sorted(maps.Keys(m)) at uint64 keys: a new slice that holds the keys, rising; conditions: the map's entries are at most 2^30.
-/
import Derived.Test.YtkehhopdppampaaIter
import Derived.Test.YtkehhopdppampaaSortG
namespace Go.Proofs.Ytkehhopdppampaa
open Go.RowKit Go.Maps Go.Sort Go.Shelf
open Go (intKeys)

theorem srt_ins_none (p : Option Addr) (cap : Nat) (w : World) : Calls Try.prog 77 #[.slice p 0 cap, .int .i64 0, .int .i64 0] w fun e w' => e = .returned (.tuple #[]) ∧ w' = w := by
  go_enter Try.func77, Try.ntmps77
  go_wp2
  refine wp_loop_rounds 1 ?_
  rw [rounds_succ]
  go_wp2
  go_end0
  exact ⟨rfl, rfl⟩

theorem srt_pdq_none (p : Option Addr) (cap : Nat) (w : World) : Calls Try.prog 72 #[.slice p 0 cap, .int .i64 0, .int .i64 0, .int .i64 0] w fun e w' => e = .returned (.tuple #[]) ∧ w' = w := by
  go_enter Try.func72, Try.ntmps72
  go_wp2
  refine wp_loop_rounds 1 ?_
  rw [rounds_succ]
  go_wp2_with (go_at_call 77; refine (srt_ins_none _ _ _).mono ?_; rintro e w' ⟨rfl, rfl⟩)
  (try simp only [Exit.inBlock, Exit.then]); refine bodyPost_ret (results_none rfl _ _ _) rfl ?_
  exact ⟨rfl, rfl⟩

theorem srt_slices_Sort_none (p : Option Addr) (cap : Nat) (w : World) : Calls Try.prog 58 #[.slice p 0 cap] w fun e w' => e = .returned (.tuple #[]) ∧ w' = w := by
  have hLen : ∀ w, Calls Try.prog 73 #[.int .u64 0] w fun e w' => e = .returned (.int .i64 0) ∧ w' = w := fun w => srt_bits_Len 0 w (by omega) (by omega)
  go_enter Try.func58, Try.ntmps58
  go_wp2_with (first
    | (go_at_call 73; refine (hLen _).mono ?_; rintro e w' ⟨rfl, rfl⟩)
    | (go_at_call 72; refine (srt_pdq_none _ _ _).mono ?_; rintro e w' ⟨rfl, rfl⟩))
  go_end0
  exact ⟨rfl, rfl⟩

theorem it_sorts (m : Nat) : it_SortsIn Fence.wide m :=
  ⟨fun blk off cap ss W hH hblk hsz => callsIn_wide.2 (srt_slices_Sort blk off cap ss W hH hblk hsz), fun p cap W => callsIn_wide.2 (srt_slices_Sort_none p cap W)⟩

/-- slices.Sorted, against maps.Keys(m)'s iterator, m's block b. -/
theorem sorted_A {H : Type} (b nn : Nat) (D0 : DataW H) {R : Value → Option (DataW H × List MemPlace)} (Bm : Nat) (w : World) (hBm : Bm < w.heap.size) (hm : w.cell? ⟨Bm, 0, none⟩ = some (.map (some b)))
    (hown : w.ownsMap Try.prog 27 R b nn D0) (hmax : Maps.size D0 ≤ 1073741824) :
    Calls Try.prog 40 #[.func (.func 59) #[] #[.pointer (some ⟨Bm, 0, none⟩)]] w fun e w' => ∃ (v : Value) (ss : List Int), e = .returned v ∧ ss.Perm (intKeys D0) ∧
      w'.ownsRow w.heap.size 27 1 v ss.length ((ss.mergeSort (fun x y => decide (x ≤ y))).map encU) ∧ (v = .slice none 0 0 ↔ ss = []) ∧ Below w.heap.size w w' := by
  refine (callsIn_wide (n := 6)).1 ?_
  exact it_sorted_in Fence.wide 6 trivial trivial trivial trivial rfl (by omega) (it_sorts _) (enters_of Try.func58 (by kernel_rfl) rfl) 59 #[.pointer (some ⟨Bm, 0, none⟩)] trivial
    (enters_of Try.func59 (by kernel_rfl) rfl) _ (Maps.size D0) (by unfold maxLen; omega) (by omega) w (it_keys_gives_A Fence.wide _ trivial rfl (by omega) Bm b nn D0 w hBm hm hown)

theorem sorted_A_nil (Bm : Nat) (w : World) (hBm : Bm < w.heap.size) (hm : w.cell? ⟨Bm, 0, none⟩ = some (.map none)) :
    Calls Try.prog 40 #[.func (.func 59) #[] #[.pointer (some ⟨Bm, 0, none⟩)]] w fun e w' => e = .returned (.slice none 0 0) ∧ Below w.heap.size w w' := by
  refine (callsIn_wide (n := 6)).1 ?_
  refine (it_sorted_in Fence.wide 6 trivial trivial trivial trivial rfl (by omega) (it_sorts _) (enters_of Try.func58 (by kernel_rfl) rfl) 59 #[.pointer (some ⟨Bm, 0, none⟩)] trivial
    (enters_of Try.func59 (by kernel_rfl) rfl) _ 0 (by unfold maxLen; omega) (by omega) w (it_keys_gives_nil_A Fence.wide _ trivial rfl Bm w hBm hm)).mono ?_
  rintro e w' ⟨v, ss, rfl, rfl, _, hn, hb⟩
  exact ⟨by rw [hn.2 rfl], hb⟩

theorem keys_A (mb : Option Nat) (w : World) : Calls Try.prog 41 #[.map mb] w fun e w' => e = .returned (.func (.func 59) #[] #[.pointer (some ⟨w.heap.size, 0, none⟩)]) ∧ w' = w.alloc (.cells #[.map mb] 75) :=
  (callsIn_wide (n := 6)).1 (it_keys_in_A Fence.wide 6 trivial rfl mb w)

/-- The same for the other map. -/
theorem sorted_B {H : Type} (b nn : Nat) (D0 : DataW H) {R : Value → Option (DataW H × List MemPlace)} (Bm : Nat) (w : World) (hBm : Bm < w.heap.size) (hm : w.cell? ⟨Bm, 0, none⟩ = some (.map (some b)))
    (hown : w.ownsMap Try.prog 27 R b nn D0) (hmax : Maps.size D0 ≤ 1073741824) :
    Calls Try.prog 40 #[.func (.func 65) #[] #[.pointer (some ⟨Bm, 0, none⟩)]] w fun e w' => ∃ (v : Value) (ss : List Int), e = .returned v ∧ ss.Perm (intKeys D0) ∧
      w'.ownsRow w.heap.size 27 1 v ss.length ((ss.mergeSort (fun x y => decide (x ≤ y))).map encU) ∧ (v = .slice none 0 0 ↔ ss = []) ∧ Below w.heap.size w w' := by
  refine (callsIn_wide (n := 6)).1 ?_
  exact it_sorted_in Fence.wide 6 trivial trivial trivial trivial rfl (by omega) (it_sorts _) (enters_of Try.func58 (by kernel_rfl) rfl) 65 #[.pointer (some ⟨Bm, 0, none⟩)] trivial
    (enters_of Try.func65 (by kernel_rfl) rfl) _ (Maps.size D0) (by unfold maxLen; omega) (by omega) w (it_keys_gives_B Fence.wide _ trivial rfl (by omega) Bm b nn D0 w hBm hm hown)

theorem keys_B (mb : Option Nat) (w : World) : Calls Try.prog 47 #[.map mb] w fun e w' => e = .returned (.func (.func 65) #[] #[.pointer (some ⟨w.heap.size, 0, none⟩)]) ∧ w' = w.alloc (.cells #[.map mb] 86) :=
  (callsIn_wide (n := 6)).1 (it_keys_in_B Fence.wide 6 trivial rfl mb w)

end Go.Proofs.Ytkehhopdppampaa
