/-
  Own objects turned to data for good: at a function's end, within it.
-/
import Derived.Test.YtidhgdipnfhoeaaDoorAd4
namespace Go.Ab
open Go
@[simp] theorem wantB_true (b : Bool) : wantB true b = b := rfl
@[simp] theorem wantB_false (b : Bool) : wantB false b = !b := rfl
theorem REnt.conv {n0 : Nat} {l l' : List AV} {A A' : List AO} (cvs : List Cv) (C : Option Prop) (he : conv A cvs l = (C, some l', A')) (hC : Hold C) : REnt n0 (.tup l) A (.tup l') A' := fun c H hA hn v hv => by
  subst hA
  unfold Rel at hv
  obtain ⟨vs, h1, h2⟩ := hv
  obtain ⟨c', k1, k2, k3, k4, k5⟩ := conv_sound cvs l c l' _ H h2 (by rw [he]; exact hC) (by rw [he])
  rw [he] at k4
  refine ⟨c', k1.w, k2.toN' hn, k3, k4, ?_⟩
  unfold Rel
  exact ⟨vs, h1, k5⟩
theorem REnt.conv1 {n0 : Nat} {a a' : AV} {A A' : List AO} (cv : Cv) (C : Option Prop) (he : Ab.conv1 A cv a = (C, some a', A')) (hC : Hold C) : REnt n0 a A a' A' := fun c H hA hn v hv => by
  subst hA
  obtain ⟨c', k1, k2, k3, k4, k5⟩ := conv1_sound (cv := cv) H hv (by rw [he]; exact hC) (by rw [he])
  rw [he] at k4
  exact ⟨c', k1.w, k2.toN' hn, k3, k4, k5⟩
theorem Ent.conv {n0 : Nat} {T : List (Nat × AV)} {A : List AO} (d : Nat) (cv : Cv) (C : Option Prop) {a' : AV} {A' : List AO} (he : Ab.conv1 A cv (lk T d) = (C, some a', A')) (hC : Hold C) : Ent n0 ⟨T, A⟩ ⟨(d, a') :: T, A'⟩ := fun c H hA hn tmps ht => by
  have hA : c.A = A := hA
  subst hA
  obtain ⟨c', k1, k2, k3, k4, k5⟩ := conv1_sound (cv := cv) H (ht d) (by rw [he]; exact hC) (by rw [he])
  rw [he] at k4
  refine ⟨c', k1.w, k2.toN' hn, k3, k4, fun n => ?_⟩
  show Rel _ (lk ((d, _) :: T) n) _
  unfold lk
  by_cases hd : d = n
  · subst hd; rw [if_pos rfl]; exact k5
  · rw [if_neg hd]; exact (ht n).ext k2
end Go.Ab
