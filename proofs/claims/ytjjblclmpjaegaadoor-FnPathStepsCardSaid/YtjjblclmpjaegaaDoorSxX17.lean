/- The contract of function 17, proved without the evaluator. No condition. -/
import Derived.Test.YtjjblclmpjaegaaDoorProg
import Derived.Lib.DecodeN
import Derived.Shelf.GgClosure.StringsIndexFuncTop
import Derived.WalkKit
import Derived.Deep.Draws
import Derived.Test.YtjjblclmpjaegaaDoorSxX
import Derived.Test.YtjjblclmpjaegaaDoorSxU
set_option linter.unusedVariables false
set_option linter.unusedSimpArgs false
namespace Go.Sx
open Go.Shelf Go.RowKit Go.Lib Go.Proofs
set_option linter.unusedVariables false
set_option linter.unusedSimpArgs false
/-! ### what the first letter outside 'a' to 'z' is -/
def nmOut (r : Nat) : Bool := decide (r < 97) || decide (122 < r)
theorem nm_dec (s : ByteArray) (i : Nat) : nmOut (Utf8.decode s i).1 = nmOut (s.get! i).toNat ∧ (nmOut (s.get! i).toNat = false → (Utf8.decode s i).2 = 1) := by
  have h : (s.get! i).toNat < 256 := UInt8.toNat_lt _
  rw [decode_at]
  generalize (s.get! i).toNat = b at h
  generalize (s.get! (i + 1)).toNat = b1
  generalize (s.get! (i + 2)).toNat = b2
  generalize (s.get! (i + 3)).toNat = b3
  unfold decodeN nmOut
  by_cases c : b < 128
  · rw [if_pos c]; exact ⟨rfl, fun _ => rfl⟩
  · rw [if_neg c]
    have e : (decide (b < 97) || decide (122 < b)) = true := by simp; omega
    rw [e]
    refine ⟨?_, fun h => by cases h⟩
    repeat' split
    all_goals (simp; try omega)
def nmAll (s : ByteArray) (i : Nat) : Nat → Bool
  | 0 => true
  | d + 1 => !nmOut (s.get! i).toNat && nmAll s (i + 1) d
theorem idx_nm (s : ByteArray) (d : Nat) : ∀ f i, i + d = s.size → d ≤ f → (decide (idxFuncFrom nmOut true s f i < 0)) = nmAll s i d := by
  induction d with
  | zero => intro f i h _; rw [idxFuncFrom_end _ _ _ _ _ (by omega)]; rfl
  | succ d ih =>
    intro f i h hf
    obtain ⟨f, rfl⟩ : ∃ m, f = m + 1 := ⟨f - 1, by omega⟩
    obtain ⟨h1, h2⟩ := nm_dec s i
    unfold idxFuncFrom nmAll
    rw [if_pos (by omega), h1]
    cases c : nmOut (s.get! i).toNat with
    | true => rw [if_pos rfl]; simp
    | false => rw [if_neg (by decide), h2 c]; simpa using ih f (i + 1) (by omega) (by omega)
theorem idx_name (s : ByteArray) : decide (idxFunc nmOut true s < 0) = nmAll s 0 s.size := idx_nm s s.size s.size 0 (by omega) (by omega)
/-! ### the shelf's contract at this program -/
def l15_ren : Go.Shelf.Ren := ⟨fun | 15 => 28 | 20 => 34 | n => n, fun | 9 => 9 | 23 => 44 | 3 => 3 | 4 => 4 | 0 => 0 | 21 => 21 | n => n, fun | n => n⟩
theorem l15 : Go.Proofs.LaysGw.n15 Tryd.prog l15_ren := {
  mixed := by kernel_rfl
  f15 := Tryd.func28.trans (congrArg some (by kernel_rfl))
  f20 := Tryd.func34.trans (congrArg some (by kernel_rfl))
  t0 := Tryd.underlying0
  a0 := Tryd.isAgg0
  z0 := Tryd.sizeOf0
  v0 := Tryd.zeroValue0
  i0 := by kernel_rfl
  t3 := Tryd.underlying3
  a3 := Tryd.isAgg3
  z3 := Tryd.sizeOf3
  v3 := Tryd.zeroValue3
  i3 := by kernel_rfl
  t4 := Tryd.underlying4
  a4 := Tryd.isAgg4
  z4 := Tryd.sizeOf4
  v4 := Tryd.zeroValue4
  i4 := by kernel_rfl
  t9 := Tryd.underlying9
  a9 := Tryd.isAgg9
  z9 := Tryd.sizeOf9
  v9 := Tryd.zeroValue9
  i9 := by kernel_rfl
  t21 := Tryd.underlying21
  a21 := Tryd.isAgg21
  z21 := Tryd.sizeOf21
  v21 := Tryd.zeroValue21
  i21 := by kernel_rfl
  t23 := Tryd.underlying44
  a23 := Tryd.isAgg44
  z23 := Tryd.sizeOf44
  v23 := Tryd.zeroValue44
  i23 := by kernel_rfl }
theorem clo (w : World) : PredAt Tryd.prog 29 #[] encR nmOut w := fun W r _ => by
  unfold FnGives
  by_cases h1 : r < 97 <;> by_cases h2 : 122 < r
  all_goals
    have z1 : decide ((r : Int) < 97) = decide (r < 97) := by rw [Bool.eq_iff_iff]; simp; omega
    have z2 : decide ((122 : Int) < (r : Int)) = decide (122 < r) := by rw [Bool.eq_iff_iff]; simp; omega
    simp only [h1, h2, decide_true, decide_false] at z1 z2
    have z3 : nmOut r = (decide (r < 97) || decide (122 < r)) := rfl
    simp only [h1, h2, decide_true, decide_false, Bool.or_true, Bool.or_false, Bool.true_or, Bool.false_or] at z3
    rw [z3]
    clear z3 h1 h2
    go_enter Tryd.func29, Tryd.ntmps29
    go_wp2
    all_goals (go_ret; exact ⟨rfl, 0, rfl⟩)
theorem in_calls (n a b : Int) (w : World) (r : Bool) (h : decide (a ≤ n ∧ n ≤ b) = r) : Calls Tryd.prog 27 #[.int .i64 n, .int .i64 a, .int .i64 b] w fun e w' => e = .returned (.bool r) ∧ w = w' := by
  subst h
  by_cases h1 : a ≤ n
  · have e : decide (a ≤ n ∧ n ≤ b) = decide (n ≤ b) := by simp [h1]
    rw [e]
    have z1 : decide (a ≤ n) = true := decide_eq_true h1
    clear h1 e
    go_enter Tryd.func27, Tryd.ntmps27
    go_wp2
    go_ret
    exact ⟨rfl, rfl⟩
  · have e : decide (a ≤ n ∧ n ≤ b) = false := by simp [h1]
    rw [e]
    have z1 : decide (a ≤ n) = false := decide_eq_false h1
    clear h1 e
    go_enter Tryd.func27, Tryd.ntmps27
    go_wp2
    go_ret
    exact ⟨rfl, rfl⟩
def impl_nameOk.f (a0 : ByteArray) : Option Bool := some (decide ((1 : Int) ≤ a0.size ∧ (a0.size : Int) ≤ 3) && nmAll a0 0 a0.size)
set_option maxHeartbeats 1000000 in
theorem impl_nameOk.calls (a0 : ByteArray) (r : Bool) (w : World) (h : impl_nameOk.f a0 = some r) :
    Calls Tryd.prog 17 #[.string a0] w fun e w' => e = .returned (.bool r) ∧ Below w.heap.size w w' := by
  have hI := fun (W : World) => Any.strings_IndexFunc l15 29 #[] (enters_of Tryd.func29 (by kernel_rfl) rfl) nmOut a0 W (clo W)
  change ∀ W, Calls Tryd.prog 28 _ _ _ at hI
  have hx := idx_name a0
  generalize hX : idxFunc nmOut true a0 = X at hI hx
  clear hX
  unfold impl_nameOk.f at h
  rw [← hx] at h
  clear hx
  obtain rfl := Option.some.inj h
  clear h
  cases c : decide ((1 : Int) ≤ a0.size ∧ (a0.size : Int) ≤ 3) with
  | false =>
    have hin := fun W => in_calls a0.size 1 3 W false c
    clear c
    go_enter Tryd.func17, Tryd.ntmps17
    go_wp2_with (go_at_call 27; refine (hin _).mono ?_; rintro e w' ⟨rfl, rfl⟩)
    go_ret
    exact ⟨rfl, Below.refl _ _⟩
  | true =>
    have hin := fun W => in_calls a0.size 1 3 W true c
    clear c
    go_enter Tryd.func17, Tryd.ntmps17
    go_wp2_with (first | (go_at_call 27; refine (hin _).mono ?_; rintro e w' ⟨rfl, rfl⟩) | (go_at_call 28; refine (hI _).mono ?_; rintro e w' ⟨rfl, hb⟩))
    go_ret
    exact ⟨by simp, hb⟩
def f17 (_ : Nat) : ByteArray → Option Bool := impl_nameOk.f
theorem snd17 (k : Nat) : Snd Tryd.prog UU 17 (W (Dl.one (Dc.str UU)) (f17 k) (Dc.bool UU)) := by
  refine snd_ext Tryd.func17 (by kernel_rfl) (by kernel_rfl) ?_
  intro a r h w M vs hv
  obtain ⟨v, ws, rfl, h1, h2⟩ := hv.head
  cases h1
  obtain rfl : ws = [] := by have := h2.1; simpa using this.symm
  exact (impl_nameOk.calls a r w h).mono fun e w' ⟨he, hw⟩ => ⟨_, he, hw, .v _⟩
end Go.Sx
