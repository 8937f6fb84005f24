/- sort.Slice as SortCells calls it: at most 12 cells. -/
import Derived.Test.YthhaojbnnacdbaaSort
import Derived.Test.YthhaojbnnacdbaaShelf
namespace Go.Proofs.Ythhaojbnnacdbaa
open Go.RowKit

section
variable {B : Nat} {w0 : World} {Bv blk n cap : Nat} {dk : Array C} {w w' : World}
set_option maxRecDepth 100000 in
set_option maxHeartbeats 2000000 in
theorem pdqSmall (sf : Nat) (sb : Array Value) (lim : Int) (hsw : 2 ≤ n → SwapRun Try.prog sf sb B w0 Bv blk n cap) (h : SS B w0 Bv blk n cap dk w) (hn : n ≤ 12) :
    Calls Try.prog 106 #[dataV Bv sf sb, .int .i64 0, .int .i64 n, .int .i64 lim] w fun e w' => e = .returned (.tuple #[]) ∧ SS B w0 Bv blk n cap (Sort.insertionSort bef dk 0 n) w' := by
  have h1 := h.later (below_alloc w (.cells #[.func (.func 77) #[] #[.pointer (some ⟨Bv, 0, none⟩)], .func (.func sf) #[] sb] 89))
  have hi := insSort sf sb hsw h1 0 n (Nat.zero_le _) (Nat.le_refl _) (by omega)
  unfold dataV at hi ⊢
  clear h h1 hsw
  go_enter Try.func106, Try.ntmps106
  go_wp2
  refine wp_loop_rounds 1 ?_
  rw [rounds_succ]
  go_wp2_with (go_at_call 127; refine hi.mono ?_; rintro e w' ⟨rfl, hS⟩)
  (try simp only [Exit.inBlock, Exit.then]); refine bodyPost_ret (results_none rfl _ _ _) rfl ?_
  exact ⟨rfl, hS⟩
end

set_option maxHeartbeats 1000000 in
set_option maxRecDepth 100000 in
theorem slice_pdq (f : Nat) (Bw : Array Value) (p : Option Addr) (n c : Nat) (hn : n ≤ 1048576) (lv : Value) (w : World) (R : World → Prop) (hlv : ∃ lf la lb, lv = .func lf la lb)
    (hs : ∀ w, (Extern.ReflectliteSwapper.swapper "internal/reflectlite" (Extern.ReflectliteValue.valueError "Swapper") #[.iface 25 (.slice p n c)]).run Try.prog w = .ok (.func (.func f) #[] Bw) w)
    (hp : ∀ (lim : Int) w1, Below w.heap.size w w1 → Calls Try.prog 106 #[.agg #[lv, .func (.func f) #[] Bw], .int .i64 0, .int .i64 n, .int .i64 lim] w1 fun e w' => e = .returned (.tuple #[]) ∧ R w') :
    Calls Try.prog 76 #[.iface 25 (.slice p n c), lv] w fun e w' => e = .returned (.tuple #[]) ∧ R w' := by
  obtain ⟨lf, la, lb, rfl⟩ := hlv
  have hv := Lib.run_valueOf_slice (P := Try.prog) 25 58 Try.infoT (by kernel_rfl) (by kernel_rfl) p n c w
  have hl := fun a w ha => Lib.run_valueLen_slice (P := Try.prog) 25 58 Try.infoT (by kernel_rfl) (by kernel_rfl) (by kernel_rfl) a p n c w ha
  have hb := fun w => Try.bits_Len (n : Int) w (by omega) (by omega)
  have hg : Try.prog.globals.size = 0 := by kernel_rfl
  simp only [typeHandle, hg] at hv hl
  clear hg
  have wr : IntKind.u64.wrap (n : Int) = n := by simp [IntKind.wrap, IntKind.bits, IntKind.signed]; omega
  go_enter Try.func76, Try.ntmps76
  go_wp2
  rw [run_callFunc_extern Try.func102 (by kernel_rfl) (by kernel_rfl) (by kernel_rfl) (e := fun args => Extern.ReflectliteValue.unpack (args.getD 0 (.tuple #[]))) (by kernel_rfl),
    show Sem.run Try.prog ((fun args : Array Value => Extern.ReflectliteValue.unpack (args.getD 0 (.tuple #[]))) #[.iface 25 (.slice p n c)]) w = _ from hv]
  simp only [Result.andThen]
  rw [Oper.upon_value]
  go_wp2
  rw [run_callFunc_extern Try.func103 (by kernel_rfl) (by kernel_rfl) (by kernel_rfl) (e := Extern.ReflectliteSwapper.swapper "internal/reflectlite" (Extern.ReflectliteValue.valueError "Swapper")) (by kernel_rfl), hs]
  simp only [Result.andThen]
  rw [Oper.upon_value]
  go_wp2
  rw [run_callFunc_extern Try.func104 (by kernel_rfl) (by kernel_rfl) (by kernel_rfl) (e := Extern.ReflectliteValue.method (Extern.ReflectliteValue.valueError "reflectlite.Value.Len" 0) Extern.ReflectliteValue.len) (by kernel_rfl),
    hl _ _ (by simp)]
  simp only [Result.andThen]
  rw [Oper.upon_value]
  go_wp2_with (first
    | (go_at_call 105; refine (hb _).mono ?_; rintro e w' ⟨rfl, rfl⟩)
    | (go_at_call 106; refine (hp _ _ (below2 _ _ _)).mono ?_; rintro e w' ⟨rfl, hR⟩))
  go_end0
  exact ⟨rfl, hR⟩

section
variable {B : Nat} {w0 : World} {Bv blk n cap : Nat} {dk : Array C} {w w' : World}
theorem sliceSmall (h : SS B w0 Bv blk n cap dk w) (h2 : 2 ≤ n) (hn : n ≤ 12) :
    Calls Try.prog 76 #[.iface 25 (.slice (some ⟨blk, 0, none⟩) n cap), .func (.func 77) #[] #[.pointer (some ⟨Bv, 0, none⟩)]] w fun e w' => e = .returned (.tuple #[]) ∧ SS B w0 Bv blk n cap (Sort.insertionSort bef dk 0 n) w' := by
  have hie : Try.prog.info? 58 = some Try.infoE := by kernel_rfl
  have hs := fun w => Lib.run_swapper_slice (P := Try.prog) 25 58 Try.infoT Try.infoE (by kernel_rfl) (by kernel_rfl) hie 25 (fun _ => by kernel_rfl) (some ⟨blk, 0, none⟩) n cap 124 (by rw [Try.swapK n h2]; kernel_rfl) w
  rw [Try.swapK n h2, if_neg (by omega)] at hs
  refine slice_pdq 124 _ _ n cap (by omega) _ w _ ⟨_, _, _, rfl⟩ hs fun lim w1 hb => ?_
  exact pdqSmall _ _ lim (fun _ => swap_any) (h.later hb) hn
end
end Go.Proofs.Ythhaojbnnacdbaa
