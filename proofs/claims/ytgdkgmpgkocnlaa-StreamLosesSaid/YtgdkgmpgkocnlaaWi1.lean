/- rescripttop.inner: contract. -/
import Derived.Test.YtgdkgmpgkocnlaaAwS
import Derived.Test.YtgdkgmpgkocnlaaStL
import Derived.Test.YtgdkgmpgkocnlaaFr7
namespace Go.Proofs.Ytgdkgmpgkocnlaa
open Go Go.RowKit Go.Shelf

/-- the byte C5 stands somewhere but at the beginning -/
def innerB (f : Frm) : Bool := ((fput f).drop 1).any fun x => x == 197
theorem inner_plain {f : Frm} (h : innerB f = false) : plainF f := by
  intro i h0 hi e
  unfold innerB at h
  rw [List.any_eq_false] at h
  have hm : (fput f)[i]'hi ∈ (fput f).drop 1 := by
    rw [List.mem_drop_iff_getElem]
    exact ⟨i - 1, by omega, by congr 1; omega⟩
  have h2 := h _ hm
  unfold byteAt at e
  rw [List.getD_eq_getElem?_getD, List.getElem?_eq_getElem hi, Option.getD_some] at e
  apply h2
  rw [beq_iff_eq]
  exact UInt8.toNat_inj.1 (by rw [e]; rfl)
end Go.Proofs.Ytgdkgmpgkocnlaa
