/- slices.Sort at numbers of 32 bits: pdqsort is known for rows of up to 255. No statement is proved here; nothing is assumed. -/
import Derived.Test.YtbainekfbonbjaaSrtH
import Derived.Test.YtbainekfbonbjaaSrtC
import Derived.Test.YtbainekfbonbjaaSrtD
import Derived.Test.YtbainekfbonbjaaSrtE
import Derived.Test.YtbainekfbonbjaaSrtI
namespace Go.Proofs.Ytbainekfbonbjaa
open Go.RowKit Go.Sort
set_option linter.unusedVariables false

theorem calleesU : CalleesU where
  ins := fun blk off cap a b d w hH hab hb hs => insSort_u blk off cap a b d w hH hab hb (by omega)
  brk := fun blk off cap a b d w hH hblk hab hb hs => srt_breakPatterns_int blk off cap a b d w hH hblk hab hb hs
  piv := fun blk off cap a b d w hH hblk hab hb hs => srt_choosePivot_int blk off cap a b d w hH hblk hab hb (by omega)
  par := fun blk off cap a b d w hH hab hb hs => srt_partialInsertionSort_int blk off cap a b d w hH hab hb (by omega)
  peq := fun blk off cap a b pivot d w hH h1 h2 hb hs => srt_partitionEqualOrdered_int blk off cap a b pivot d w hH h1 h2 hb (by omega)
  prt := fun blk off cap a b pivot d w hH h1 h2 hb hs => srt_partitionOrdered_int blk off cap a b pivot d w hH h1 h2 hb (by omega)
theorem plainU : Plain13 where
  swo := swo_ltInt
  ins := insertionSort_holds
  par := partialInsertionSort_holds
  prt := partition_holds _
  peq := partitionEqual_holds _
  pdq := pdq_sorts _
theorem pdqAt255 : PdqAt 255 := fun blk off cap limit d w hH hblk hm hl =>
  srt_pdqsort_int calleesU plainU (d.size - 0 + 1) blk off cap 0 d.size limit d w (by omega) hH hblk (Nat.zero_le _) (Nat.le_refl _) (by omega) hl (.inl rfl)
end Go.Proofs.Ytbainekfbonbjaa
