import Derived.Test.YtmeebemkoakkmaaGreatDoorSxRP
set_option linter.all false
noncomputable section
namespace Go.Sx
open Go
mutual
theorem SV.same_eq (a b : SV) (h : a.same b = true) : a = b := by
  unfold SV.same at h
  split at h
  case h_1 => simp only [Bool.and_eq_true, beq_iff_eq] at h; rw [h.1, h.2]
  case h_2 => simp only [beq_iff_eq] at h; rw [h]
  case h_3 => simp only [beq_iff_eq] at h; rw [h]
  case h_4 => simp only [Bool.and_eq_true, beq_iff_eq] at h; rw [h.1, h.2]
  case h_5 => rfl
  case h_6 => simp only [Bool.and_eq_true, beq_iff_eq] at h; rw [h.1.1.1, h.1.1.2, h.1.2, h.2]
  case h_7 => simp only [Bool.and_eq_true, beq_iff_eq] at h; rw [h.1.1, h.1.2, h.2]
  case h_8 => rfl
  case h_9 f x c g y d => simp only [Bool.and_eq_true, beq_iff_eq] at h; rw [h.1.1, sames_eq x y h.1.2, sames_eq c d h.2]
  case h_10 => rfl
  case h_11 => rfl
  case h_12 t v u x => simp only [Bool.and_eq_true, beq_iff_eq] at h; rw [h.1, SV.same_eq v x h.2]
  case h_13 x y => rw [sames_eq x y h]
  case h_14 x y => rw [sames_eq x y h]
  case h_15 => cases h
theorem sames_eq (a b : List SV) (h : sames a b = true) : a = b := by
  unfold sames at h
  split at h
  case h_1 => rfl
  case h_2 v vs u us => simp only [Bool.and_eq_true] at h; rw [SV.same_eq v u h.1, sames_eq vs us h.2]
  case h_3 => cases h
end
theorem SO.same_eq {a b : SO} (h : a.same b = true) : a = b := by
  unfold SO.same at h
  split at h
  · rw [sames_eq _ _ h]
  · simp only [Bool.and_eq_true, beq_iff_eq] at h; rw [h.1, sames_eq _ _ h.2]
  · simp only [Bool.and_eq_true, beq_iff_eq] at h; rw [h.1, h.2]
  · simp only [beq_iff_eq] at h; rw [h]
  · cases h
theorem Blk.same_eq {a b : Blk} (h : a.same b = true) : a = b := by
  obtain ⟨r, k, f, s⟩ := a
  obtain ⟨r', k', f', s'⟩ := b
  simp only [Blk.same, Bool.and_eq_true, beq_iff_eq] at h
  obtain ⟨⟨⟨rfl, rfl⟩, rfl⟩, h⟩ := h
  rw [SO.same_eq h]

end Go.Sx
