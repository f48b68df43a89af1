/- strings.Join and strings.Repeat as known calls: the shelf's contracts at this dump. -/
import Derived.Test.YtiecfndakjcdmabGreatDoorBase
import Derived.Test.YtiecfndakjcdmabGreatDoorShelf
namespace Go.Proofs.YtiecfndakjcdmabGreatDoor
open Go Go.AE

theorem joinOK : JoinOK prog 330 :=
  ⟨⟨_, _, Tryz.func330, rfl⟩, fun bk o c xs sep w h1 h2 h3 h4 h5 => Tryz.strings_Join bk o c xs sep w h1 h2 h3 h4 h5⟩
theorem repeatOK : RepeatOK prog 329 :=
  ⟨⟨_, _, Tryz.func329, rfl⟩, fun s c w h1 h2 => Tryz.strings_Repeat s c w h1 h2⟩
end Go.Proofs.YtiecfndakjcdmabGreatDoor
