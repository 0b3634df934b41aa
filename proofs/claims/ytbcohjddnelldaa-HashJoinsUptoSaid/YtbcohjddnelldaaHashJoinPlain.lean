/-
  Plain laws of the sum: unlike numbers go on unlike; one byte turned turns the sum. No program in sight but the names of sums.
-/
import Derived.Test.YtbcohjddnelldaaHashSumWalks
namespace Go.Proofs.Ytbcohjddnelldaa.HashJ
open HashPlain HashW

theorem xor_cancel (a b c : Nat) (h : a ^^^ c = b ^^^ c) : a = b := by
  have := congrArg (· ^^^ c) h
  simpa [Nat.xor_assoc] using this
theorem xor_cancel_left (a b c : Nat) (h : c ^^^ a = c ^^^ b) : a = b := by
  rw [Nat.xor_comm c a, Nat.xor_comm c b] at h; exact xor_cancel _ _ _ h
theorem byte_M (b : Nat) (h : b < 256) : b < M64 := by unfold M64; omega
theorem on_inj (h h' b b' : Nat) (hh : h < M64) (hh' : h' < M64) (hb : b < 256) (hb' : b' < 256) (e : onN h b = onN h' b') : h ^^^ b = h' ^^^ b' := by
  rw [onN_eq, onN_eq] at e
  have k1 := mul_back (h ^^^ b) 1099511628211 14886173955864302971 (xorN_lt _ _ hh (byte_M _ hb)) (by decide)
  have k2 := mul_back (h' ^^^ b') 1099511628211 14886173955864302971 (xorN_lt _ _ hh' (byte_M _ hb')) (by decide)
  rw [← k1, e, k2]
theorem sum_inj (l : List UInt8) : ∀ (h h' : Nat), h < M64 → h' < M64 → sumB h l = sumB h' l → h = h' := by
  induction l with
  | nil => intro h h' _ _ e; exact e
  | cons b r ih =>
    intro h h' hh hh' e
    rw [sumB_cons, sumB_cons] at e
    exact xor_cancel _ _ _ (on_inj _ _ _ _ hh hh' b.toNat_lt b.toNat_lt (ih _ _ (onN_lt _ _) (onN_lt _ _) e))
theorem sum_turn (h : Nat) (l : List UInt8) (k : Nat) (b : UInt8) (hh : h < M64) (hk : k < l.length) (hne : b ≠ l[k]) : sumB h (l.set k b) ≠ sumB h l := by
  intro e
  have e1 : l.set k b = l.take k ++ b :: l.drop (k + 1) := by rw [List.set_eq_take_append_cons_drop, if_pos hk]
  have e2 : l = l.take k ++ l[k] :: l.drop (k + 1) := by rw [List.getElem_cons_drop, List.take_append_drop]
  rw [e1] at e
  rw [show sumB h l = sumB h (l.take k ++ l[k] :: l.drop (k + 1)) by rw [← e2]] at e
  rw [sumB_append, sumB_append, sumB_cons, sumB_cons] at e
  have h1 := sum_inj _ _ _ (onN_lt _ _) (onN_lt _ _) e
  have hs := sumB_lt h (l.take k) hh
  have h2 := xor_cancel_left _ _ _ (on_inj _ _ _ _ hs hs b.toNat_lt (l[k]).toNat_lt h1)
  exact hne (UInt8.toNat_inj.1 h2)
theorem sum_zero : sumB Begin [0] ≠ sumB Begin [] := by
  rw [sumB_one, onN_eq]
  show _ ≠ Begin
  decide
theorem turn_byte (a b : UInt8) (h : b ≠ 0) : a ^^^ b ≠ a := by
  intro e
  apply h
  have := congrArg (a ^^^ ·) e
  simpa [← UInt8.xor_assoc] using this
end Go.Proofs.Ytbcohjddnelldaa.HashJ
