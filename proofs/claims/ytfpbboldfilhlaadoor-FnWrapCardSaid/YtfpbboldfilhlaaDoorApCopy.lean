/-
  Copies among the cells of a screen that is written on: what Go's copy does there. Conditions: the places lie among the cells.
-/
import Derived.Test.YtfpbboldfilhlaaDoorApPlain
import Derived.Test.YtfpbboldfilhlaaDoorNewScr
namespace Go.Proofs.YtfpbboldfilhlaaDoor
open Go.ChangeShapes Go.WideShapes Go.ChangeAt Go.RowKit
set_option linter.unusedVariables false
section
variable {ty : TypeId} {B b gC oC capC : Nat} {ao : Option Addr} {cap : Nat} {S : Sc} {cs : List (Int × Int)} {hs : List ByteArray} {w : World}
theorem ScrAt.cpy (h : ScrAt ty B b gC oC capC ao cap S cs hs w) (d s n : Nat) (hd : d + n ≤ cs.length) (hs' : s + n ≤ cs.length) :
    ScrAt ty B b gC oC capC ao cap S (cpyL cs d s n) hs (w.setCells gC (oC + d * 2) (cellsV ((cs.drop s).take n))) := by
  have hl : ((cs.drop s).take n).length = n := by rw [List.length_take, List.length_drop]; omega
  have := h.write d ((cs.drop s).take n) (by omega)
  rw [hl] at this
  exact this
theorem ScrAt.fil (h : ScrAt ty B b gC oC capC ao cap S cs hs w) (d n : Nat) (hd : d + n ≤ cs.length) :
    ScrAt ty B b gC oC capC ao cap S (fillL cs d n) hs (w.setCells gC (oC + d * 2) (cellsV (List.replicate n blC))) := by
  have := h.write d (List.replicate n blC) (by rw [List.length_replicate]; omega)
  rw [List.length_replicate] at this
  exact this
theorem ScrAt.cpRun (h : ScrAt ty B b gC oC capC ao cap S cs hs w) (d s n cD cS : Nat) (hd : d + n ≤ cs.length) (hs' : s + n ≤ cs.length) :
    (Builtin.copy_ #[24, 24] 3 #[.slice (some ⟨gC, oC + d * 2, none⟩) n cD, .slice (some ⟨gC, oC + s * 2, none⟩) n cS]).run Tryd.prog w = .ok (goInt n) (w.setCells gC (oC + d * 2) (cellsV ((cs.drop s).take n))) := by
  obtain ⟨i0, hi, iz0, iz1, iz2⟩ := info_parts Tryd.info_cell
  have hl : (cellsV ((cs.drop s).take n)).length = n * 2 := by rw [length_cellsV, List.length_take, List.length_drop]; omega
  have hlc := length_cellsV cs
  have hsrc := at_src h.at (s * 2) (n * 2)
  rw [cellsV_drop, cellsV_take] at hsrc
  have hrun := run_copy_cellsZ (P := Tryd.prog) w 24 24 3 57 2 gC (oC + d * 2) n cD ⟨gC, oC + s * 2, none⟩ n cS (cellsV ((cs.drop s).take n)) Tryd.underlying24 (by rw [hi]; exact congrArg some iz1) (by rw [show Nat.min n n = n from Nat.min_self n]; exact hl) hsrc
    (fun j hj => by rw [show oC + d * 2 + j = oC + (d * 2 + j) from by omega, (h.cells (d * 2 + j) (by omega)).1]; rfl)
    (fun j hj => by rw [show oC + d * 2 + j = oC + (d * 2 + j) from by omega]; exact (h.cells (d * 2 + j) (by omega)).2) (cellsV_one _)
  rw [show Nat.min n n = n from Nat.min_self n] at hrun
  exact hrun
theorem ScrAt.fillRun (h : ScrAt ty B b gC oC capC ao cap S cs hs w) (d n cD cS g2 o2 : Nat) (hd : d + n ≤ cs.length) (hs' : At w (some ⟨g2, o2, none⟩) (cellsV (List.replicate n blC))) :
    (Builtin.copy_ #[24, 24] 3 #[.slice (some ⟨gC, oC + d * 2, none⟩) n cD, .slice (some ⟨g2, o2, none⟩) n cS]).run Tryd.prog w = .ok (goInt n) (w.setCells gC (oC + d * 2) (cellsV (List.replicate n blC))) := by
  obtain ⟨i0, hi, iz0, iz1, iz2⟩ := info_parts Tryd.info_cell
  have hl : (cellsV (List.replicate n blC)).length = n * 2 := by rw [length_cellsV, List.length_replicate]; omega
  have hlc := length_cellsV cs
  have hsrc := at_src hs' 0 (n * 2)
  rw [List.drop_zero, List.take_of_length_le (by omega)] at hsrc
  have hrun := run_copy_cellsZ (P := Tryd.prog) w 24 24 3 57 2 gC (oC + d * 2) n cD ⟨g2, o2, none⟩ n cS (cellsV (List.replicate n blC)) Tryd.underlying24 (by rw [hi]; exact congrArg some iz1) (by rw [show Nat.min n n = n from Nat.min_self n]; exact hl) hsrc
    (fun j hj => by rw [show oC + d * 2 + j = oC + (d * 2 + j) from by omega, (h.cells (d * 2 + j) (by omega)).1]; rfl)
    (fun j hj => by rw [show oC + d * 2 + j = oC + (d * 2 + j) from by omega]; exact (h.cells (d * 2 + j) (by omega)).2) (cellsV_one _)
  rw [show Nat.min n n = n from Nat.min_self n] at hrun
  exact hrun
theorem cpZero (w : World) (g o g' o' cD cS : Nat) :
    (Builtin.copy_ #[24, 24] 3 #[.slice (some ⟨g, o, none⟩) 0 cD, .slice (some ⟨g', o', none⟩) 0 cS]).run Tryd.prog w = .ok (goInt 0) w := by
  obtain ⟨i0, hi, iz0, iz1, iz2⟩ := info_parts Tryd.info_cell
  exact run_copy_cellsZ (P := Tryd.prog) w 24 24 3 57 2 g o 0 cD ⟨g', o', none⟩ 0 cS [] Tryd.underlying24 (by rw [hi]; exact congrArg some iz1) rfl (fun j v hj => by simp at hj) (fun j hj => by simp at hj) (fun j hj => by simp at hj) (fun v hv => by simp at hv)
end
end Go.Proofs.YtfpbboldfilhlaaDoor
