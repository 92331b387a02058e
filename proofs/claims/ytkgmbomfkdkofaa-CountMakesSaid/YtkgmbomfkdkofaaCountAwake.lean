/- count: awake (CountK), what is too heavy (CountHeavy). -/
import Derived.Test.YtkgmbomfkdkofaaCountFit
