/- The contract of function 38, proved without the evaluator. No condition. -/
import Derived.Test.YtpljcphiaajjaaaProg
import Derived.Lib.DecodeN
import Derived.Shelf.GgClosure.StringsIndexFuncTop
import Derived.WalkKit
import Derived.Deep.Draws
import Derived.Test.YtpljcphiaajjaaaSzX
import Derived.Test.YtpljcphiaajjaaaSzU
set_option linter.unusedVariables false
set_option linter.unusedSimpArgs false
namespace Go.Sx
open Go.Shelf Go.RowKit Go.Lib Go.Proofs
set_option linter.unusedVariables false
set_option linter.unusedSimpArgs false
/-! ### what the first letter outside 'a' to 'z' is -/
def nmOut (r : Nat) : Bool := decide (r < 97) || decide (122 < r)
theorem nm_dec (s : ByteArray) (i : Nat) : nmOut (Utf8.decode s i).1 = nmOut (s.get! i).toNat ∧ (nmOut (s.get! i).toNat = false → (Utf8.decode s i).2 = 1) := by
  have h : (s.get! i).toNat < 256 := UInt8.toNat_lt _
  rw [decode_at]
  generalize (s.get! i).toNat = b at h
  generalize (s.get! (i + 1)).toNat = b1
  generalize (s.get! (i + 2)).toNat = b2
  generalize (s.get! (i + 3)).toNat = b3
  unfold decodeN nmOut
  by_cases c : b < 128
  · rw [if_pos c]; exact ⟨rfl, fun _ => rfl⟩
  · rw [if_neg c]
    have e : (decide (b < 97) || decide (122 < b)) = true := by simp; omega
    rw [e]
    refine ⟨?_, fun h => by cases h⟩
    repeat' split
    all_goals (simp; try omega)
def nmAll (s : ByteArray) (i : Nat) : Nat → Bool
  | 0 => true
  | d + 1 => !nmOut (s.get! i).toNat && nmAll s (i + 1) d
theorem idx_nm (s : ByteArray) (d : Nat) : ∀ f i, i + d = s.size → d ≤ f → (decide (idxFuncFrom nmOut true s f i < 0)) = nmAll s i d := by
  induction d with
  | zero => intro f i h _; rw [idxFuncFrom_end _ _ _ _ _ (by omega)]; rfl
  | succ d ih =>
    intro f i h hf
    obtain ⟨f, rfl⟩ : ∃ m, f = m + 1 := ⟨f - 1, by omega⟩
    obtain ⟨h1, h2⟩ := nm_dec s i
    unfold idxFuncFrom nmAll
    rw [if_pos (by omega), h1]
    cases c : nmOut (s.get! i).toNat with
    | true => rw [if_pos rfl]; simp
    | false => rw [if_neg (by decide), h2 c]; simpa using ih f (i + 1) (by omega) (by omega)
theorem idx_name (s : ByteArray) : decide (idxFunc nmOut true s < 0) = nmAll s 0 s.size := idx_nm s s.size s.size 0 (by omega) (by omega)
/-! ### the shelf's contract at this program -/
def l15_ren : Go.Shelf.Ren := ⟨fun | 15 => 63 | 20 => 76 | n => n, fun | 9 => 9 | 23 => 96 | 3 => 3 | 4 => 4 | 0 => 0 | 21 => 21 | n => n, fun | n => n⟩
theorem l15 : Go.Proofs.LaysGw.n15 Try.prog l15_ren := {
  mixed := by kernel_rfl
  f15 := Try.func63.trans (congrArg some (by kernel_rfl))
  f20 := Try.func76.trans (congrArg some (by kernel_rfl))
  t0 := Try.underlying0
  a0 := Try.isAgg0
  z0 := Try.sizeOf0
  v0 := Try.zeroValue0
  i0 := by kernel_rfl
  t3 := Try.underlying3
  a3 := Try.isAgg3
  z3 := Try.sizeOf3
  v3 := Try.zeroValue3
  i3 := by kernel_rfl
  t4 := Try.underlying4
  a4 := Try.isAgg4
  z4 := Try.sizeOf4
  v4 := Try.zeroValue4
  i4 := by kernel_rfl
  t9 := Try.underlying9
  a9 := Try.isAgg9
  z9 := Try.sizeOf9
  v9 := Try.zeroValue9
  i9 := by kernel_rfl
  t21 := Try.underlying21
  a21 := Try.isAgg21
  z21 := Try.sizeOf21
  v21 := Try.zeroValue21
  i21 := by kernel_rfl
  t23 := Try.underlying96
  a23 := Try.isAgg96
  z23 := Try.sizeOf96
  v23 := Try.zeroValue96
  i23 := by kernel_rfl }
theorem clo (w : World) : PredAt Try.prog 64 #[] encR nmOut w := fun W r _ => by
  unfold FnGives
  by_cases h1 : r < 97 <;> by_cases h2 : 122 < r
  all_goals
    have z1 : decide ((r : Int) < 97) = decide (r < 97) := by rw [Bool.eq_iff_iff]; simp; omega
    have z2 : decide ((122 : Int) < (r : Int)) = decide (122 < r) := by rw [Bool.eq_iff_iff]; simp; omega
    simp only [h1, h2, decide_true, decide_false] at z1 z2
    have z3 : nmOut r = (decide (r < 97) || decide (122 < r)) := rfl
    simp only [h1, h2, decide_true, decide_false, Bool.or_true, Bool.or_false, Bool.true_or, Bool.false_or] at z3
    rw [z3]
    clear z3 h1 h2
    go_enter Try.func64, Try.ntmps64
    go_wp2
    all_goals (go_ret; exact ⟨rfl, 0, rfl⟩)
theorem in_calls (n a b : Int) (w : World) (r : Bool) (h : decide (a ≤ n ∧ n ≤ b) = r) : Calls Try.prog 33 #[.int .i64 n, .int .i64 a, .int .i64 b] w fun e w' => e = .returned (.bool r) ∧ w = w' := by
  subst h
  by_cases h1 : a ≤ n
  · have e : decide (a ≤ n ∧ n ≤ b) = decide (n ≤ b) := by simp [h1]
    rw [e]
    have z1 : decide (a ≤ n) = true := decide_eq_true h1
    clear h1 e
    go_enter Try.func33, Try.ntmps33
    go_wp2
    go_ret
    exact ⟨rfl, rfl⟩
  · have e : decide (a ≤ n ∧ n ≤ b) = false := by simp [h1]
    rw [e]
    have z1 : decide (a ≤ n) = false := decide_eq_false h1
    clear h1 e
    go_enter Try.func33, Try.ntmps33
    go_wp2
    go_ret
    exact ⟨rfl, rfl⟩
def impl_nameOk.f (a0 : ByteArray) : Option Bool := some (decide ((1 : Int) ≤ a0.size ∧ (a0.size : Int) ≤ 3) && nmAll a0 0 a0.size)
set_option maxHeartbeats 1000000 in
theorem impl_nameOk.calls (a0 : ByteArray) (r : Bool) (w : World) (h : impl_nameOk.f a0 = some r) :
    Calls Try.prog 38 #[.string a0] w fun e w' => e = .returned (.bool r) ∧ Below w.heap.size w w' := by
  have hI := fun (W : World) => Any.strings_IndexFunc l15 64 #[] (enters_of Try.func64 (by kernel_rfl) rfl) nmOut a0 W (clo W)
  change ∀ W, Calls Try.prog 63 _ _ _ at hI
  have hx := idx_name a0
  generalize hX : idxFunc nmOut true a0 = X at hI hx
  clear hX
  unfold impl_nameOk.f at h
  rw [← hx] at h
  clear hx
  obtain rfl := Option.some.inj h
  clear h
  cases c : decide ((1 : Int) ≤ a0.size ∧ (a0.size : Int) ≤ 3) with
  | false =>
    have hin := fun W => in_calls a0.size 1 3 W false c
    clear c
    go_enter Try.func38, Try.ntmps38
    go_wp2_with (go_at_call 33; refine (hin _).mono ?_; rintro e w' ⟨rfl, rfl⟩)
    go_ret
    exact ⟨rfl, Below.refl _ _⟩
  | true =>
    have hin := fun W => in_calls a0.size 1 3 W true c
    clear c
    go_enter Try.func38, Try.ntmps38
    go_wp2_with (first | (go_at_call 33; refine (hin _).mono ?_; rintro e w' ⟨rfl, rfl⟩) | (go_at_call 63; refine (hI _).mono ?_; rintro e w' ⟨rfl, hb⟩))
    go_ret
    exact ⟨by simp, hb⟩
def f38 (_ : Nat) : ByteArray → Option Bool := impl_nameOk.f
theorem snd38 (E : Bool) (k : Nat) : Snd Try.prog (UU E) 38 (W (Dl.one (Dc.str (UU E))) (f38 k) (Dc.bool (UU E))) := by
  refine snd_ext Try.func38 (by kernel_rfl) (by kernel_rfl) ?_
  intro a r h w M vs hv
  obtain ⟨v, ws, rfl, h1, h2⟩ := hv.head
  cases h1
  obtain rfl : ws = [] := by have := h2.1; simpa using this.symm
  exact (impl_nameOk.calls a r w h).mono fun e w' ⟨he, hw⟩ => ⟨_, he, hw, .v _⟩
end Go.Sx
