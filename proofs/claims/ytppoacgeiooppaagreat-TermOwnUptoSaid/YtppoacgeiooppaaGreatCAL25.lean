/- Rows that are tracked as a whole: appending to them. -/
import Derived.Test.YtppoacgeiooppaaGreatCAL20
set_option linter.unusedVariables false
set_option linter.unusedSimpArgs false
namespace Go.AL
section
variable {P : Program}

theorem vals_take (cs : List AV) (n : Nat) : AV.vals (cs.take n) = (AV.vals cs).take n := by simp only [AV.vals_eq, List.map_take]
theorem vals_drop (cs : List AV) (n : Nat) : AV.vals (cs.drop n) = (AV.vals cs).drop n := by simp only [AV.vals_eq, List.map_drop]
end
end Go.AL
/- The first items of a tracked row are published at a call. -/
set_option linter.unusedVariables false
set_option linter.unusedSimpArgs false
namespace Go.AL
section
variable {P : Program}

theorem hdr_blkT {m : Mem} {sz b n cap : Nat} {xs : List AV} (hok : AV.oks m xs) (hone : ∀ x ∈ xs, x.cells.length = sz) (hn : xs.length = n) (hcap : n ≤ cap) (hmax : cap ≤ maxLen)
    (hm : ∀ (k : Nat) (x : Value), ((AV.vals xs).flatMap fun v => v.cells.toList)[k]? = some x → m b k = some x) : (AV.lst sz (.slice (some ⟨b, 0, none⟩) n cap) xs).ok m := by
  subst hn
  exact ⟨hdr_flat hok hone rfl hcap hmax hm, hok⟩

end
end Go.AL
